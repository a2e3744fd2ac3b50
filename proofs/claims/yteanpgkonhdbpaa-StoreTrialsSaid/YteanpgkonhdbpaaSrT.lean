/- What a store of a fresh device does: Install, Start; what calls of the other bank leave of the first one; in plain lists. Condition: the device is one that may be, of at least six sectors of thirteen words. A second image beside the one that runs; trials, and its confirming; in plain lists. Condition: the device is one that may be, of at least six sectors of thirteen words. -/
import Derived.Test.YteanpgkonhdbpaaSrR
import Derived.Test.YteanpgkonhdbpaaSrP
namespace Go.Proofs.Yteanpgkonhdbpaa
open Go.RowKit

/-- A fresh bank: what Begin, Put leave. -/
theorem datB_in {d : Dev} {b : BkS} (hk : BkOk d b) {j : Nat} (hj : j < roomB d b) : InB d b (datB d b + j) ∧ datB d b = b.base * d.nw + 2 * d.nw := by
  have h3 := hk.three
  have hr2 : roomB d b ≤ (b.many - 2) * d.nw := Nat.min_le_left _ _
  have a3 : datB d b = b.base * d.nw + 2 * d.nw := by unfold datB; rw [Nat.add_mul]
  have a4 : datB d b + (b.many - 2) * d.nw = (b.base + b.many) * d.nw := by unfold datB; rw [← Nat.add_mul]; congr 1; omega
  exact ⟨⟨by omega, by omega⟩, a3⟩
theorem head_in {d : Dev} {b : BkS} (hk : BkOk d b) {k : Nat} (h : k < 2 * d.nw) : InB d b (b.base * d.nw + k) := by
  have h3 := hk.three
  have a1 : b.base * d.nw + 3 * d.nw ≤ (b.base + b.many) * d.nw := by rw [← Nat.add_mul]; exact Nat.mul_le_mul_right _ (by omega)
  exact ⟨by omega, by omega⟩
/-- Begin, then Put. -/
theorem begput_q {d : Dev} (h : Qt d) {b : BkS} (hk : BkOk d b) (hw : ∀ s, b.base ≤ s → s < b.base + b.many → d.worn.getD s 0 < d.lim) {l : List Nat} (hl : ∀ y ∈ l, y < 4294967296) (hlen : l.length ≤ roomB d b) :
    ∃ d1 b1 d2 b2, beginB d b = (d1, b1, 0) ∧ putB d1 b1 l = (d2, b2, 0) ∧ StepQ d d1 ∧ StepQ d d2 ∧ (b1.base = b.base ∧ b1.many = b.many ∧ b1.opn = true ∧ b1.pn = 0) ∧ (b2.base = b.base ∧ b2.many = b.many ∧ b2.opn = true ∧ b2.pn = l.length ∧ b2.s = foldC 4294967295 l) ∧
      (∀ t, ¬ (b.base ≤ t ∧ t < b.base + b.many) → d2.worn.getD t 0 = d.worn.getD t 0) ∧ (∀ j, ¬ InB d b j → atB d1 j = atB d j) ∧ (∀ j, ¬ InB d b j → atB d2 j = atB d j) ∧ (∀ k, k < 2 * d.nw → atB d2 (b.base * d.nw + k) = 4294967295) ∧ (∀ j, j < l.length → atB d2 (datB d b + j) = l.getD j 0) := by
  obtain ⟨d1, e1, ⟨q1, m1⟩, w1, i1, o1⟩ := begin_q h hk hw
  have hk1 : BkOk d1 { b with opn := true, pn := 0, s := 4294967295, m := 0 } := hk.dimsQ m1 rfl rfl
  have hdt : datB d1 { b with opn := true, pn := 0, s := 4294967295, m := 0 } = datB d b := by unfold datB; rw [m1.nw]
  have hrm : roomB d1 { b with opn := true, pn := 0, s := 4294967295, m := 0 } = roomB d b := room_dims m1 rfl
  obtain ⟨d2, e2, ⟨q2, m2⟩, w2, i2, o2⟩ := put_q (b := { b with opn := true, pn := 0, s := 4294967295, m := 0 }) q1 hk1 hl rfl (by rw [hrm]; show 0 + l.length ≤ _; omega) (fun j h1 h2 => by
    rw [hdt] at h1 h2
    have h1' : datB d b + 0 ≤ j := h1
    have h2' : j < datB d b + 0 + l.length := h2
    have := (datB_in hk (j := j - datB d b) (by omega)).1
    rw [show datB d b + (j - datB d b) = j by omega] at this
    exact i1 j this)
  rw [hdt] at i2 o2
  have i2' : ∀ j, j < l.length → atB d2 (datB d b + 0 + j) = l.getD j 0 := i2
  have o2' : ∀ j, (j < datB d b + 0 ∨ datB d b + 0 + l.length ≤ j) → atB d2 j = atB d1 j := o2
  refine ⟨d1, _, d2, _, e1, e2, ⟨q1, m1⟩, ⟨q2, m1.trans m2⟩, ⟨rfl, rfl, rfl, rfl⟩, ⟨rfl, rfl, rfl, Nat.zero_add _, rfl⟩, fun t ht => ?_, o1, fun j hj => ?_, fun k hk2 => ?_, fun j hj => ?_⟩
  · rw [w2, w1, if_neg ht]
  · rw [o2' j ?_, o1 j hj]
    by_cases h5 : j < datB d b
    · exact .inl (by omega)
    · refine .inr (Nat.le_of_not_lt fun h6 => hj ?_)
      have := (datB_in hk (j := j - datB d b) (by omega)).1
      rw [show datB d b + (j - datB d b) = j by omega] at this
      exact this
  · have h7 : datB d b = b.base * d.nw + 2 * d.nw := by unfold datB; rw [Nat.add_mul]
    rw [o2' _ (.inl (by omega)), i1 _ (head_in hk hk2)]
  · have := i2' j hj
    rw [Nat.add_zero] at this
    exact this
/-- Begin, Put, Commit. -/
theorem bpc_q {d : Dev} (h : Qt d) {b : BkS} (hk : BkOk d b) (hw : ∀ s, b.base ≤ s → s < b.base + b.many → d.worn.getD s 0 < d.lim) {l : List Nat} (hl : ∀ y ∈ l, y < 4294967296) (hlen : l.length ≤ roomB d b) (h1 : 1 ≤ l.length) (q : Nat) (hq : q < 4294967296) :
    ∃ d1 b1 d2 b2 d3 b3, beginB d b = (d1, b1, 0) ∧ putB d1 b1 l = (d2, b2, 0) ∧ commitB d2 b2 q = (d3, b3, 0) ∧ StepQ d d1 ∧ StepQ d d2 ∧ StepQ d d3 ∧ (b1.base = b.base ∧ b1.many = b.many ∧ b1.opn = true ∧ b1.pn = 0) ∧ (b2.base = b.base ∧ b2.many = b.many ∧ b2.opn = true ∧ b2.pn = l.length) ∧ (b3.base = b.base ∧ b3.many = b.many ∧ b3.opn = false) ∧
      (∀ t, ¬ (b.base ≤ t ∧ t < b.base + b.many) → d3.worn.getD t 0 = d.worn.getD t 0) ∧ (∀ j, ¬ InB d b j → atB d1 j = atB d j) ∧ (∀ j, ¬ InB d b j → atB d2 j = atB d j) ∧ (∀ j, ¬ InB d b j → atB d3 j = atB d j) ∧ (∀ k, k < 2 * d.nw → atB d2 (b.base * d.nw + k) = 4294967295) ∧ Holds d3 b3 q l false 0 := by
  obtain ⟨d1, b1, d2, b2, e1, e2, s1, s2, f1, f2, w2, o1, o2, i2, i3⟩ := begput_q h hk hw hl hlen
  have hk2 : BkOk d2 b2 := hk.dimsQ s2.dims f2.1 f2.2.1
  have hdt : datB d2 b2 = datB d b := by unfold datB; rw [s2.dims.nw, f2.1]
  have hrm : roomB d2 b2 = roomB d b := room_dims s2.dims f2.2.1
  have a2 : (b.base + 1) * d.nw = b.base * d.nw + d.nw := by rw [Nat.add_mul, Nat.one_mul]
  have hnw := hk.words
  obtain ⟨d3, e3, s3, w3, hh, o3⟩ := commit_q s2.q hk2 hl q hq f2.2.2.1 f2.2.2.2.1 h1 (by rw [hrm]; exact hlen) f2.2.2.2.2 (by rw [f2.1, s2.dims.nw]; exact i2 0 (by omega)) (fun k hk => by
    rw [s2.dims.nw] at hk
    rw [f2.1, s2.dims.nw, a2, Nat.add_assoc]
    exact i2 _ (by omega)) (by rw [hdt]; exact i3)
  refine ⟨d1, b1, d2, b2, d3, _, e1, e2, e3, s1, s2, ⟨s3.q, s2.dims.trans s3.dims⟩, f1, ⟨f2.1, f2.2.1, f2.2.2.1, f2.2.2.2.1⟩, ⟨f2.1, f2.2.1, rfl⟩, fun t ht => by rw [w3, w2 t ht], o1, o2, fun j hj => ?_, i2, hh⟩
  rw [o3 j, o2 j hj]
  rw [f2.1, s2.dims.nw, a2]
  by_cases h5 : j < b.base * d.nw + d.nw
  · exact .inl (by omega)
  · refine .inr (Nat.le_of_not_lt fun h6 => hj ?_)
    have := head_in hk (k := j - b.base * d.nw) (by omega)
    rw [show b.base * d.nw + (j - b.base * d.nw) = j by omega] at this
    exact this

/-- A fresh device's store. -/
structure FrQ (d : Dev) : Prop where
  q : Qt d
  six : 6 ≤ d.ns
  words : 13 ≤ d.nw
  wear : ∀ s, s < d.ns → d.worn.getD s 0 < d.lim
theorem bk_cells (d : Dev) : (newSr d).d = d ∧ (newSr d).x0 = newB 0 (d.ns / 2) ∧ (newSr d).r = -1 := ⟨rfl, rfl, rfl⟩
theorem inst_ok {d : Dev} (h : FrQ d) {l : List Nat} (hl : ∀ y ∈ l, y < 4294967296) (h1 : 1 ≤ l.length) (hlen : l.length ≤ roomB d (newB 0 (d.ns / 2))) :
    ∃ s, installSr (newSr d) l = (s, 0) ∧ startSr s 0 = ({ s with r := 0 }, 0) ∧ StepQ d s.d ∧ Holds s.d s.x0 1 l true 0 ∧ s.x1 = newB (d.ns / 2) (d.ns / 2) ∧ s.x0.opn = false ∧ s.r = -1 ∧ (∀ j, ¬ InB d (newB 0 (d.ns / 2)) j → atB s.d j = atB d j) ∧ (∀ t, ¬ (t < d.ns / 2) → s.d.worn.getD t 0 = d.worn.getD t 0) := by
  have h6 := h.six
  have hk : BkOk d (newB 0 (d.ns / 2)) := ⟨by show 3 ≤ d.ns / 2; omega, by show 0 + d.ns / 2 ≤ d.ns; omega, h.words⟩
  obtain ⟨d1, b1, d2, b2, d3, b3, e1, e2, e3, s1, s2, s3, f1, f2, f3, w3, o1, o2, o3, _, hh⟩ := bpc_q h.q hk (fun s _ h4 => h.wear s (by have h5 : s < 0 + d.ns / 2 := h4; omega)) hl hlen h1 1 (by decide)
  have hk3 : BkOk d3 b3 := hk.dimsQ s3.dims f3.1 f3.2.1
  obtain ⟨d4, e4, s4, w4, hh4, o4⟩ := confirm_q s3.q hk3 hh
  have hon4 := s4.q.on
  have hok4 := s4.q.ok
  have hk4 : BkOk d4 b3 := hk3.dimsQ s4.dims rfl rfl
  refine ⟨⟨d4, b3, newB (d.ns / 2) (d.ns / 2), -1⟩, ?_, ?_, ⟨s4.q, s3.dims.trans s4.dims⟩, hh4, rfl, f3.2.2, rfl, fun j hj => ?_, fun t ht => ?_⟩
  · unfold installSr
    rw [if_neg (by rw [(bk_cells d).2.2]; omega)]
    have b0 : beg0S (newSr d) = (⟨d1, b1, newB (d.ns / 2) (d.ns / 2), -1⟩, 0) := by
      unfold beg0S
      rw [(bk_cells d).1, (bk_cells d).2.1, e1]
      rfl
    have b1' : put0S ⟨d1, b1, newB (d.ns / 2) (d.ns / 2), -1⟩ l = (⟨d2, b2, newB (d.ns / 2) (d.ns / 2), -1⟩, 0) := by
      unfold put0S
      dsimp only
      rw [e2]
      rfl
    have b2' : com0S ⟨d2, b2, newB (d.ns / 2) (d.ns / 2), -1⟩ = (⟨d3, b3, newB (d.ns / 2) (d.ns / 2), -1⟩, 0) := by
      unfold com0S
      dsimp only
      rw [e3]
      rfl
    have b3' : cnf0S ⟨d3, b3, newB (d.ns / 2) (d.ns / 2), -1⟩ = (⟨d4, b3, newB (d.ns / 2) (d.ns / 2), -1⟩, 0) := by
      unfold cnf0S
      dsimp only
      rw [e4]
      rfl
    rw [b0]
    dsimp only
    rw [b1']
    dsimp only
    rw [b2']
    dsimp only
    rw [b3']
    rfl
  · have hc := Holds.cand (s := ⟨d4, b3, newB (d.ns / 2) (d.ns / 2), -1⟩) (i := 0) hh4 hok4 hk4
    unfold startSr
    rw [if_neg (by omega), if_neg (by show ¬ d4.on = false; rw [hon4]; simp), show (0 : Int).toNat = 0 from rfl, hc]
    show (match (if d4.on = true then (if true = false ∧ 3 ≤ 0 then none else some (⟨0, 1, !true, l⟩ : Cnd)) else none) with | none => _ | some c => _) = _
    rw [hon4]
    rfl
  · rw [o4 j, o3 j hj]
    rw [s3.dims.nw, f3.1]
    have a2 : (0 + 1) * d.nw = 0 * d.nw + d.nw := by omega
    show j < (0 + 1) * d.nw ∨ _
    have : ¬ (j < 2 * d.nw) := fun h5 => hj (by have := head_in hk (k := j) h5; rw [show (newB 0 (d.ns / 2)).base = 0 from rfl, Nat.zero_mul, Nat.zero_add] at this; exact this)
    right
    show (0 + 1) * d.nw + d.nw ≤ j
    omega
  · show d4.worn.getD t 0 = _
    rw [w4, w3 t]
    show ¬ (0 ≤ t ∧ t < 0 + d.ns / 2)
    omega
theorem inst_none {d : Dev} (h : FrQ d) : (installSr (newSr d) []).2 = 80 := by
  have h6 := h.six
  have hk : BkOk d (newB 0 (d.ns / 2)) := ⟨by show 3 ≤ d.ns / 2; omega, by show 0 + d.ns / 2 ≤ d.ns; omega, h.words⟩
  obtain ⟨d1, b1, d2, b2, e1, e2, s1, s2, f1, f2, _⟩ := begput_q h.q hk (fun s _ h4 => h.wear s (by have h5 : s < 0 + d.ns / 2 := h4; omega)) (l := []) (by simp) (Nat.zero_le _)
  have e3 : commitB d2 b2 1 = (d2, b2, 80) := by
    unfold commitB
    rw [if_pos (.inr f2.2.2.2.1)]
  unfold installSr
  rw [if_neg (by rw [(bk_cells d).2.2]; omega)]
  have b0 : beg0S (newSr d) = (⟨d1, b1, newB (d.ns / 2) (d.ns / 2), -1⟩, 0) := by
    unfold beg0S
    rw [(bk_cells d).1, (bk_cells d).2.1, e1]
    rfl
  have b1' : put0S ⟨d1, b1, newB (d.ns / 2) (d.ns / 2), -1⟩ [] = (⟨d2, b2, newB (d.ns / 2) (d.ns / 2), -1⟩, 0) := by
    unfold put0S
    dsimp only
    rw [e2]
    rfl
  have b2' : com0S ⟨d2, b2, newB (d.ns / 2) (d.ns / 2), -1⟩ = (⟨d2, b2, newB (d.ns / 2) (d.ns / 2), -1⟩, 80) := by
    unfold com0S
    dsimp only
    rw [e3]
    rfl
  rw [b0]
  dsimp only
  rw [b1']
  dsimp only
  rw [b2']
  rfl
theorem inst_full {d : Dev} (h : FrQ d) {l : List Nat} (hlen : roomB d (newB 0 (d.ns / 2)) < l.length) : (installSr (newSr d) l).2 = 81 := by
  have h6 := h.six
  have hk : BkOk d (newB 0 (d.ns / 2)) := ⟨by show 3 ≤ d.ns / 2; omega, by show 0 + d.ns / 2 ≤ d.ns; omega, h.words⟩
  obtain ⟨d1, e1, ⟨q1, m1⟩, _⟩ := begin_q h.q hk (fun s _ h4 => h.wear s (by have h5 : s < 0 + d.ns / 2 := h4; omega))
  have hrm : roomB d1 { newB 0 (d.ns / 2) with opn := true, pn := 0, s := 4294967295, m := 0 } = roomB d (newB 0 (d.ns / 2)) := room_dims m1 rfl
  have e2 : putB d1 { newB 0 (d.ns / 2) with opn := true, pn := 0, s := 4294967295, m := 0 } l = (d1, { newB 0 (d.ns / 2) with opn := true, pn := 0, s := 4294967295, m := 0 }, 81) := by
    unfold putB
    rw [if_neg (by simp), hrm, if_pos]
    show (roomB d (newB 0 (d.ns / 2)) : Int) - ((0 : Nat) : Int) < _
    omega
  unfold installSr
  rw [if_neg (by rw [(bk_cells d).2.2]; omega)]
  have b0 : beg0S (newSr d) = (⟨d1, { newB 0 (d.ns / 2) with opn := true, pn := 0, s := 4294967295, m := 0 }, newB (d.ns / 2) (d.ns / 2), -1⟩, 0) := by
    unfold beg0S
    rw [(bk_cells d).1, (bk_cells d).2.1, e1]
    rfl
  have b1' : put0S ⟨d1, { newB 0 (d.ns / 2) with opn := true, pn := 0, s := 4294967295, m := 0 }, newB (d.ns / 2) (d.ns / 2), -1⟩ l = (⟨d1, { newB 0 (d.ns / 2) with opn := true, pn := 0, s := 4294967295, m := 0 }, newB (d.ns / 2) (d.ns / 2), -1⟩, 81) := by
    unfold put0S
    dsimp only
    rw [e2]
    rfl
  rw [b0]
  dsimp only
  rw [b1']
  rfl
theorem newD_fr {s n l : Nat} (h1 : 6 ≤ s) (h2 : s ≤ 64) (h3 : 13 ≤ n) (h4 : n ≤ 1024) (h5 : 1 ≤ l) (h6 : l ≤ 1048576) : FrQ (newD s n l) :=
  ⟨⟨newD_ok s n l (by omega) h2 (by omega) h4 h6, rfl, rfl⟩, h1, h3, fun t ht => by
    show (List.replicate s 0).getD t 0 < l
    rw [List.getD_eq_getElem?_getD, List.getElem?_replicate]
    split
    · exact h5
    · exact h5⟩
end Go.Proofs.Yteanpgkonhdbpaa

namespace Go.Proofs.Yteanpgkonhdbpaa
open Go.RowKit

theorem blank_state {d : Dev} {b : BkS} (ho : d.Ok) (hk : BkOk d b) (hw : ∀ k, k < 2 * d.nw → atB d (b.base * d.nw + k) = 4294967295) : (stateB d b).seq = 0 := by
  have hs : b.base + 1 < d.ns := hk.in_ (by omega) (by have := hk.three; omega)
  have hnw := hk.words
  have a2 : (b.base + 1) * d.nw = b.base * d.nw + d.nw := by rw [Nat.add_mul, Nat.one_mul]
  have at_ : ∀ k, k < d.nw → atH (secB d b 1) k = 4294967295 := fun k hk => by
    have := atH_at ho hs hk
    rw [a2, Nat.add_assoc, hw _ (by omega)] at this
    exact this
  have hv : validH (secB d b 1) = false := by
    have : twoH (secB d b 1) 0 = false := by
      unfold twoH
      rw [at_ 0 (by omega), at_ (0 + 1) (by omega)]
      decide
    unfold validH
    rw [this]
    rfl
  unfold stateB
  split
  · rfl
  · unfold headH
    rw [hv]
    rfl
/-- The first bank's image runs, confirmed; power is there and stays. -/
structure RunA (s : StS) (a : List Nat) : Prop where
  ok : SrOk s
  q : Qt s.d
  a : Holds s.d s.x0 1 a true 0
theorem RunA.conf {s : StS} {a : List Nat} (h : RunA s a) (hr : s.r = 0) : othE s = 0 ∧ othI s = 1 ∧ confS s = true := by
  have hst := h.a.state h.ok.ok (h.ok.bk (i := 0) (by decide))
  have hc : confS s = true := by
    unfold confS
    rw [hr]
    show (decide ((0 : Int) ≤ 0) && (stateB s.d (s.bk 0)).conf) = true
    rw [show s.bk 0 = s.x0 from rfl, hst]
    rfl
  refine ⟨?_, ?_, hc⟩
  · unfold othE
    rw [if_neg (by rw [h.q.on]; simp), if_neg (by rw [hc]; simp)]
  · unfold othI
    rw [hr]
    rfl
/-- What is done to the second bank's words leaves the first bank's. -/
theorem not_in1 {s : StS} (ho : SrOk s) {j : Nat} (hj : InB s.d s.x0 j) : ¬ InB s.d s.x1 j := fun h => by
  have h1 := hj.2
  have h2 := h.1
  rw [ho.base0, ho.many0, Nat.zero_add] at h1
  rw [ho.base1] at h2
  omega
theorem not_in0 {s : StS} (ho : SrOk s) {j : Nat} (hj : InB s.d s.x1 j) : ¬ InB s.d s.x0 j := fun h => not_in1 ho h hj
theorem snd_ok {s : StS} {a b : List Nat} (h : RunA s a) (hr : s.r = 0) (hw : ∀ t, s.d.ns / 2 ≤ t → t < s.d.ns → s.d.worn.getD t 0 < s.d.lim) (hb : ∀ y ∈ b, y < 4294967296) (h1 : 1 ≤ b.length) (hlen : b.length ≤ roomB s.d s.x1) :
    ∃ s1 s2 s3, beginSr s = (s1, 0) ∧ putSr s1 b = (s2, 0) ∧ commitSr s2 = (s3, 0) ∧ commitSr s3 = (s3, 80) ∧ othE s2 = 0 ∧ (s2.bk (othI s2)).pn = b.length ∧ (s2.bk (othI s2)).opn = true ∧ RunA s1 a ∧ RunA s2 a ∧ RunA s3 a ∧ s1.r = 0 ∧ s2.r = 0 ∧ s3.r = 0 ∧ Holds s3.d s3.x1 2 b false 0 := by
  have ho := h.ok
  have h6 := ho.six
  have hk1 : BkOk s.d s.x1 := ho.bk (i := 1) (by decide)
  have hk0 : BkOk s.d s.x0 := ho.bk (i := 0) (by decide)
  obtain ⟨o1, o2, o3⟩ := h.conf hr
  obtain ⟨d1, b1, d2, b2, d3, b3, e1, e2, e3, s1, s2, s3, f1, f2, f3, w3, u1, u2, u3, i2, hh⟩ := bpc_q h.q hk1 (fun t ht1 ht2 => hw t (by rw [ho.base1] at ht1; exact ht1) (by rw [ho.base1, ho.many1] at ht2; omega)) hb hlen h1 2 (by decide)
  have hbs : beginSr s = (⟨d1, s.x0, b1, s.r⟩, 0) := by
    unfold beginSr
    rw [if_pos o1, o2]
    show (s.put 1 (beginB s.d s.x1).1 (beginB s.d s.x1).2.1, (beginB s.d s.x1).2.2) = _
    rw [e1]
    rfl
  have ra1 : RunA ⟨d1, s.x0, b1, s.r⟩ a := ⟨by have := beginSr_ok ho; rw [hbs] at this; exact this, s1.q, h.a.same hk0 s1.dims rfl rfl (fun j hj => u1 j (not_in1 ho hj))⟩
  have c1 := ra1.conf hr
  have hps : putSr ⟨d1, s.x0, b1, s.r⟩ b = (⟨d2, s.x0, b2, s.r⟩, 0) := by
    unfold putSr
    rw [if_pos c1.1, c1.2.1]
    show ((⟨d1, s.x0, b1, s.r⟩ : StS).put 1 (putB d1 b1 b).1 (putB d1 b1 b).2.1, (putB d1 b1 b).2.2) = _
    rw [e2]
    rfl
  have ra2 : RunA ⟨d2, s.x0, b2, s.r⟩ a := ⟨by have := putSr_ok ra1.ok hb; rw [hps] at this; exact this, s2.q, h.a.same hk0 s2.dims rfl rfl (fun j hj => u2 j (not_in1 ho hj))⟩
  have c2 := ra2.conf hr
  have hn2 : nextN ⟨d2, s.x0, b2, s.r⟩ = 1 := by
    have hb2 := blank_state (b := b2) s2.q.ok (hk1.dimsQ s2.dims f2.1 f2.2.1) (fun k hk => by rw [s2.dims.nw] at hk; rw [f2.1, s2.dims.nw]; exact i2 k hk)
    unfold nextN
    show max (max 0 (stateB d2 s.x0).seq) (stateB d2 b2).seq = 1
    rw [hb2, ra2.a.state ra2.ok.ok (hk0.dimsQ s2.dims rfl rfl)]
    rfl
  have hcs : commitSr ⟨d2, s.x0, b2, s.r⟩ = (⟨d3, s.x0, b3, s.r⟩, 0) := by
    unfold commitSr
    rw [if_pos c2.1, c2.2.1, hn2]
    show (if b2.opn = false ∨ b2.pn = 0 then _ else if 2147483648 ≤ 1 then _ else ((⟨d2, s.x0, b2, s.r⟩ : StS).put 1 (commitB d2 b2 2).1 (commitB d2 b2 2).2.1, (commitB d2 b2 2).2.2)) = _
    rw [if_neg (by rw [f2.2.2.1, f2.2.2.2]; simp; intro e; rw [e] at h1; simp at h1), if_neg (by decide), e3]
    rfl
  have ra3 : RunA ⟨d3, s.x0, b3, s.r⟩ a := ⟨by have := commitSr_ok ra2.ok; rw [hcs] at this; exact this, s3.q, h.a.same hk0 s3.dims rfl rfl (fun j hj => u3 j (not_in1 ho hj))⟩
  have c3 := ra3.conf hr
  have hcs3 : commitSr ⟨d3, s.x0, b3, s.r⟩ = (⟨d3, s.x0, b3, s.r⟩, 80) := by
    unfold commitSr
    rw [if_pos c3.1, c3.2.1, if_pos]
    exact .inl f3.2.2
  refine ⟨_, _, _, hbs, hps, hcs, hcs3, c2.1, ?_, ?_, ra1, ra2, ra3, hr, hr, hr, hh⟩
  · rw [c2.2.1]; exact f2.2.2.2
  · rw [c2.2.1]; exact f2.2.2.1
/-- Two images: the first bank's, and the second one's on trial or confirmed. -/
structure Two (s : StS) (a b : List Nat) (cf : Bool) (tr : Nat) : Prop where
  run : RunA s a
  b : Holds s.d s.x1 2 b cf tr
theorem Two.cand1 {s : StS} {a b : List Nat} {cf : Bool} {tr : Nat} (h : Two s a b cf tr) : candS s 1 = if cf = false ∧ 3 ≤ tr then none else some ⟨1, 2, !cf, b⟩ := by
  rw [Holds.cand (i := 1) h.b h.run.ok.ok (h.run.ok.bk (i := 1) (by decide)), if_pos h.run.q.on]
theorem Two.cand0 {s : StS} {a b : List Nat} {cf : Bool} {tr : Nat} (h : Two s a b cf tr) : candS s 0 = some ⟨0, 1, false, a⟩ := by
  rw [Holds.cand (i := 0) h.run.a h.run.ok.ok (h.run.ok.bk (i := 0) (by decide)), if_pos h.run.q.on]
  rfl
theorem Two.cands {s : StS} {a b : List Nat} {cf : Bool} {tr : Nat} (h : Two s a b cf tr) : candsS s = if cf = false ∧ 3 ≤ tr then [⟨0, 1, false, a⟩] else [⟨1, 2, !cf, b⟩, ⟨0, 1, false, a⟩] := by
  unfold candsS
  rw [h.cand0, h.cand1]
  by_cases hc : cf = false ∧ 3 ≤ tr
  · rw [if_pos hc, if_pos hc]
  · rw [if_neg hc, if_neg hc]
    rfl
/-- Power goes, and comes. -/
theorem Two.power {s : StS} {a b : List Nat} {cf : Bool} {tr : Nat} (h : Two s a b cf tr) : powerS (powerS s.d false) true = s.d := by
  have := h.run.q.on
  unfold powerS
  rw [← this]
/-- Start of the second bank's image, on trial. -/
theorem Two.start {s : StS} {a b : List Nat} {tr : Nat} (h : Two s a b false tr) (ht : tr < 3) : ∃ s', startSr s 1 = (s', 0) ∧ Two s' a b false (tr + 1) ∧ s'.r = 1 := by
  have ho := h.run.ok
  have hk1 : BkOk s.d s.x1 := ho.bk (i := 1) (by decide)
  have hk0 : BkOk s.d s.x0 := ho.bk (i := 0) (by decide)
  obtain ⟨d', e, st, w, hh, oth⟩ := try_q h.run.q hk1 h.b ht
  have hs : startSr s 1 = (⟨d', s.x0, s.x1, 1⟩, 0) := by
    unfold startSr
    rw [if_neg (by omega), if_neg (by rw [h.run.q.on]; simp), show (1 : Int).toNat = 1 from rfl, h.cand1, if_neg (by omega)]
    show (if true = true then (if (tryB s.d s.x1).2 = 0 then ({ s.put 1 (tryB s.d s.x1).1 s.x1 with r := 1 }, 0) else (s.put 1 (tryB s.d s.x1).1 s.x1, (tryB s.d s.x1).2)) else _) = _
    rw [if_pos rfl, e]
    rfl
  refine ⟨_, hs, ⟨⟨by have := startSr_ok ho 1; rw [hs] at this; exact this, st.q, h.run.a.same hk0 st.dims rfl rfl (fun j hj => oth j ?_)⟩, hh⟩, rfl⟩
  have hn := not_in1 ho hj
  have hnw := hk1.words
  have a2 : (s.x1.base + 1) * s.d.nw = s.x1.base * s.d.nw + s.d.nw := by rw [Nat.add_mul, Nat.one_mul]
  rw [a2]
  by_cases h5 : j < s.x1.base * s.d.nw
  · exact .inl (by omega)
  · refine .inr (Nat.le_of_not_lt fun h6 => hn ?_)
    have := head_in hk1 (k := j - s.x1.base * s.d.nw) (by omega)
    rw [show s.x1.base * s.d.nw + (j - s.x1.base * s.d.nw) = j by omega] at this
    exact this
theorem Two.spent {s : StS} {a b : List Nat} (h : Two s a b false 3) : startSr s 1 = (s, 80) := by
  unfold startSr
  rw [if_neg (by omega), if_neg (by rw [h.run.q.on]; simp), show (1 : Int).toNat = 1 from rfl, h.cand1]
  rfl
theorem Two.trial {s : StS} {a b : List Nat} {cf : Bool} {tr : Nat} (h : Two s a b cf tr) (hr : s.r = 1) : confS s = cf ∧ (cf = false → othE s = 80) := by
  have hst := h.b.state h.run.ok.ok (h.run.ok.bk (i := 1) (by decide))
  have hc : confS s = cf := by
    unfold confS
    rw [hr]
    show (decide ((0 : Int) ≤ 1) && (stateB s.d (s.bk 1)).conf) = cf
    rw [show s.bk 1 = s.x1 from rfl, hst]
    rfl
  refine ⟨hc, fun e => ?_⟩
  unfold othE
  rw [if_neg (by rw [h.run.q.on]; simp), hc, if_pos e]
theorem Two.confirm {s : StS} {a b : List Nat} {tr : Nat} (h : Two s a b false tr) (hr : s.r = 1) : ∃ s', confirmSr s = (s', 0) ∧ Two s' a b true tr ∧ s'.r = 1 := by
  have ho := h.run.ok
  have hk1 : BkOk s.d s.x1 := ho.bk (i := 1) (by decide)
  have hk0 : BkOk s.d s.x0 := ho.bk (i := 0) (by decide)
  obtain ⟨d', e, st, w, hh, oth⟩ := confirm_q h.run.q hk1 h.b
  have hs : confirmSr s = (⟨d', s.x0, s.x1, s.r⟩, 0) := by
    unfold confirmSr
    rw [if_neg (by omega), show s.r.toNat = 1 by rw [hr]; rfl]
    show (s.put 1 (confirmB s.d s.x1).1 s.x1, (confirmB s.d s.x1).2) = _
    rw [e]
    rfl
  refine ⟨_, hs, ⟨⟨by have := confirmSr_ok ho; rw [hs] at this; exact this, st.q, h.run.a.same hk0 st.dims rfl rfl (fun j hj => oth j ?_)⟩, hh⟩, hr⟩
  have hn := not_in1 ho hj
  have hnw := hk1.words
  have a2 : (s.x1.base + 1) * s.d.nw = s.x1.base * s.d.nw + s.d.nw := by rw [Nat.add_mul, Nat.one_mul]
  rw [a2]
  by_cases h5 : j < s.x1.base * s.d.nw
  · exact .inl (by omega)
  · refine .inr (Nat.le_of_not_lt fun h6 => hn ?_)
    have := head_in hk1 (k := j - s.x1.base * s.d.nw) (by omega)
    rw [show s.x1.base * s.d.nw + (j - s.x1.base * s.d.nw) = j by omega] at this
    exact this
theorem Two.confirmed {s : StS} {a b : List Nat} {tr : Nat} (h : Two s a b true tr) (hr : s.r = 1) : confirmSr s = (s, 80) ∧ startSr s 1 = (s, 0) := by
  have hk1 : BkOk s.d s.x1 := h.run.ok.bk (i := 1) (by decide)
  have hst := h.b.state h.run.ok.ok hk1
  obtain ⟨d, x0, x1, r⟩ := s
  dsimp only at hr hst
  subst hr
  constructor
  · unfold confirmSr
    rw [if_neg (by show ¬ (1 : Int) < 0; omega)]
    have e : confirmB d x1 = (d, 80) := by
      unfold confirmB
      have hon : d.on = true := h.run.q.on
      rw [if_neg (by rw [hon]; simp), hst, if_pos (.inr rfl)]
    show ((⟨d, x0, x1, 1⟩ : StS).put 1 (confirmB d x1).1 x1, (confirmB d x1).2) = _
    rw [e]
    rfl
  · have hon : d.on = true := h.run.q.on
    unfold startSr
    rw [if_neg (by omega), if_neg (by rw [hon]; simp), show (1 : Int).toNat = 1 from rfl, h.cand1]
    rfl
end Go.Proofs.Yteanpgkonhdbpaa
