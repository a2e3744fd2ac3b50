/- What runs in a store's first bank is left by all that is done beside it; in plain lists. Condition: the device is one that may be. -/
import Derived.Test.YteanpgkonhdbpaaSrT
namespace Go.Proofs.Yteanpgkonhdbpaa
open Go.RowKit

theorem progH_low (s : Nat) : ∀ (l : List (Nat × Nat)) (d : Dev) (j : Nat), j < s * d.nw → atB (progsH d s l).1 j = atB d j
  | [], _, _, _ => rfl
  | x :: l, d, j, hj => by
    have e1 := prog_other d s x.1 x.2 j (by omega)
    have m := prog_dims d (s : Int) (x.1 : Int) x.2
    rw [progsH]
    split
    · rw [progH_low s l _ j (by rw [m.nw]; exact hj), e1]
    · exact e1
theorem erases_low : ∀ (l : List Nat) (d : Dev) (j : Nat), (∀ s ∈ l, j < s * d.nw) → atB (erasesL d l).1 j = atB d j
  | [], _, _, _ => rfl
  | s :: l, d, j, hl => by
    have e1 := erase_other d s j (.inl (hl s (by simp)))
    have m := erase_dimsB d (s : Int)
    unfold erasesL
    split
    · rw [erases_low l _ j (fun t ht => by rw [m.nw]; exact hl t (by simp [ht])), e1]
    · exact e1
theorem begin_low {d : Dev} {b : BkS} {j : Nat} (h3 : 1 ≤ b.many) (hj : j < b.base * d.nw) : atB (beginB d b).1 j = atB d j := by
  have e1 := prog_other d b.base 0 0 j (by omega)
  have m := prog_dims d (b.base : Int) 0 0
  have e1' : atB (progS d (b.base : Int) 0 0).1 j = atB d j := e1
  have e2 : atB (erasesL (progS d (b.base : Int) 0 0).1 (secOrd b.base b.many)).1 j = atB d j := by
    rw [erases_low _ _ _ (fun s hs => by
      have := (mem_secOrd h3).1 hs
      rw [m.nw]
      exact Nat.lt_of_lt_of_le hj (Nat.mul_le_mul_right _ this.1)), e1']
  unfold beginB
  split
  · rfl
  · split
    · rfl
    · split
      · split
        · exact e2
        · exact e2
      · exact e1'
theorem putL_low : ∀ (l : List Nat) (d : Dev) (b : BkS) (j : Nat), j < b.base * d.nw → atB (putL d b l).1 j = atB d j
  | [], _, _, _, _ => rfl
  | x :: l, d, b, j, hj => by
    have hle : b.base * d.nw ≤ (b.base + 2 + b.pn / d.nw) * d.nw := Nat.mul_le_mul_right _ (by generalize b.pn / d.nw = z; omega)
    have e1 := prog_other d (b.base + 2 + b.pn / d.nw) (b.pn % d.nw) x j (by omega)
    have m := prog_dims d ((b.base + 2 + b.pn / d.nw : Nat) : Int) ((b.pn % d.nw : Nat) : Int) x
    rw [putL]
    split
    · rw [putL_low l _ _ j (by rw [m.nw]; exact hj), e1]
    · exact e1
theorem put_low {d : Dev} {b : BkS} {l : List Nat} {j : Nat} (hj : j < b.base * d.nw) : atB (putB d b l).1 j = atB d j := by
  unfold putB
  split
  · rfl
  · split
    · rfl
    · exact putL_low l d b j hj
theorem commit_low {d : Dev} {b : BkS} {q j : Nat} (hq : q < 4294967296) (hpn : b.pn < 4294967296) (ho : d.Ok) (hj : j < b.base * d.nw) : atB (commitB d b q).1 j = atB d j := by
  have hle : b.base * d.nw ≤ (b.base + 1) * d.nw := Nat.mul_le_mul_right _ (by omega)
  have e1 := progH_low (b.base + 1) (headW q b.pn (cplJ b.s)) d j (by omega)
  have m := (progsH_ok (headW q b.pn (cplJ b.s)) d (b.base + 1) ho (headW_lt hq hpn (cpl_lt _))).2
  have e2 := progH_low (b.base + 1) (pairH 6 1668246893) (progsH d (b.base + 1) (headW q b.pn (cplJ b.s))).1 j (by rw [m.nw]; omega)
  unfold commitB
  split
  · rfl
  · split
    · exact e2.trans e1
    · exact e1
/-- The first bank's image runs, confirmed; on or off. -/
structure KpI (s : StS) (img : List Nat) : Prop where
  ok : SrOk s
  a : Holds s.d s.x0 1 img true 0
  r : s.r = 0
theorem KpI.oth {s : StS} {img : List Nat} (h : KpI s img) : othI s = 1 := by unfold othI; rw [h.r]; rfl
theorem KpI.set {s : StS} {img : List Nat} (h : KpI s img) {d' : Dev} {b' : BkS} (ho : SrOk (s.put 1 d' b')) (k : DimsJ s.d d') (hs : ∀ j, j < s.x1.base * s.d.nw → atB d' j = atB s.d j) : KpI (s.put 1 d' b') img := by
  refine ⟨ho, ?_, h.r⟩
  show Holds d' s.x0 1 img true 0
  refine h.a.same (h.ok.bk (i := 0) (by decide)) k rfl rfl (fun j hj => hs j ?_)
  have h1 := hj.2
  rw [h.ok.base0, h.ok.many0, Nat.zero_add] at h1
  rw [h.ok.base1]
  exact h1
theorem KpI.step {s : StS} {img : List Nat} (h : KpI s img) {o : SOp} (hl : ∀ y ∈ o.l, y < 4294967296) (hs : o.s < 4294967296) (hn : o.n ≤ 9223372036854775807) (h4 : kindN o.kind ≠ 4) (h5 : kindN o.kind ≠ 5) (h6 : kindN o.kind ≠ 6) (h8 : kindN o.kind ≠ 8) : KpI (doSr s o).1 img := by
  have hok := doSr_ok h.ok hl hs hn
  have hm : 1 ≤ s.x1.many := by have := h.ok.six; rw [h.ok.many1]; omega
  unfold doSr at hok ⊢
  by_cases g0 : kindN o.kind = 0
  · rw [if_pos g0] at hok ⊢
    unfold beginSr at hok ⊢
    split
    · rename_i he
      rw [if_pos he] at hok
      rw [h.oth] at hok ⊢
      exact h.set hok (beginB_ok h.ok.ok s.x1).2 (fun j hj => begin_low hm hj)
    · exact h
  rw [if_neg g0] at hok ⊢
  by_cases g3 : kindN o.kind = 3
  · rw [if_pos g3] at hok ⊢
    unfold commitSr at hok ⊢
    split
    · rename_i he
      rw [if_pos he] at hok
      split
      · exact h
      · rename_i he2
        rw [if_neg he2] at hok
        split
        · exact h
        · rename_i he3
          rw [if_neg he3] at hok
          rw [h.oth] at hok ⊢
          have hp := h.ok.fine1.pn
          have hs32 := h.ok.fine1.s
          exact h.set hok (commitB_ok h.ok.ok s.x1 (q := nextN s + 1) (by omega) (by omega) hs32).2 (fun j hj => commit_low (by omega) (by show s.x1.pn < _; omega) h.ok.ok hj)
    · exact h
  rw [if_neg g3, if_neg h4, if_neg h5, if_neg h6] at hok ⊢
  by_cases g7 : kindN o.kind = 7
  · rw [if_pos g7] at hok ⊢
    exact ⟨hok, h.a.same (h.ok.bk (i := 0) (by decide)) ⟨rfl, rfl, rfl⟩ rfl rfl (fun _ _ => rfl), h.r⟩
  rw [if_neg g7, if_neg h8] at hok ⊢
  unfold putSr at hok ⊢
  split
  · rename_i he
    rw [if_pos he] at hok
    rw [h.oth] at hok ⊢
    exact h.set hok (putB_ok h.ok.ok s.x1 hl).2 (fun j hj => put_low hj)
  · exact h
theorem KpI.cand {s : StS} {img : List Nat} (h : KpI s img) (hon : s.d.on = true) : candS s 0 = some ⟨0, 1, false, img⟩ := by
  rw [Holds.cand (i := 0) h.a h.ok.ok (h.ok.bk (i := 0) (by decide)), if_pos hon]
  rfl
/-- The store made anew, and started. -/
theorem KpI.anew {s : StS} {img : List Nat} (h : KpI s img) (hok : SrOk (newSr (powerS s.d true))) : startSr (newSr (powerS s.d true)) 0 = ({ newSr (powerS s.d true) with r := 0 }, 0) ∧ KpI { newSr (powerS s.d true) with r := 0 } img := by
  have hh : Holds (powerS s.d true) (newB 0 (s.d.ns / 2)) 1 img true 0 := h.a.same (h.ok.bk (i := 0) (by decide)) ⟨rfl, rfl, rfl⟩ h.ok.base0.symm h.ok.many0.symm (fun _ _ => rfl)
  have hk : KpI { newSr (powerS s.d true) with r := 0 } img := ⟨hok.setRun (.inr (.inl rfl)), hh, rfl⟩
  have hc := hk.cand rfl
  refine ⟨?_, hk⟩
  unfold startSr
  rw [if_neg (by omega), if_neg (by show ¬ true = false; simp), show (0 : Int).toNat = 0 from rfl, show candS (newSr (powerS s.d true)) 0 = some ⟨0, 1, false, img⟩ from hc]
  rfl
theorem candS_bank {s : StS} {i : Nat} {c : Cnd} (h : candS s i = some c) : c.bank = i := by
  unfold candS at h
  split at h
  · cases h
  · split at h
    · cases h
    · cases h; rfl
theorem KpI.has {s : StS} {img : List Nat} (h : KpI s img) (hon : s.d.on = true) : (candsS s).length ≤ 2 ∧ (∀ c ∈ candsS s, c.bank = 0 → c = ⟨0, 1, false, img⟩) ∧ ∃ c ∈ candsS s, c.bank = 0 := by
  unfold candsS
  rw [h.cand hon]
  cases hb : candS s 1 with
  | none => exact ⟨by simp, fun c hc _ => by simpa using hc, ⟨_, List.mem_singleton.2 rfl, rfl⟩⟩
  | some b =>
    have h1 := candS_bank hb
    dsimp only
    split
    · refine ⟨by simp, fun c hc h0 => ?_, ⟨⟨0, 1, false, img⟩, by simp, rfl⟩⟩
      simp only [List.mem_cons, List.not_mem_nil, or_false] at hc
      rcases hc with rfl | rfl
      · omega
      · rfl
    · refine ⟨by simp, fun c hc h0 => ?_, ⟨⟨0, 1, false, img⟩, by simp, rfl⟩⟩
      simp only [List.mem_cons, List.not_mem_nil, or_false] at hc
      rcases hc with rfl | rfl
      · rfl
      · omega
theorem cands_two (s : StS) : (candsS s).length ≤ 2 := by
  unfold candsS
  split
  · simp
  · simp
  · simp
  · split <;> simp
end Go.Proofs.Yteanpgkonhdbpaa
