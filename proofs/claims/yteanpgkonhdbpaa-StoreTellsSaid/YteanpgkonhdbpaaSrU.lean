/- The law's own trial of a store (law09's alive), its New of eight sectors; walked. No condition. -/
import Derived.Test.YteanpgkonhdbpaaSrT
import Derived.Test.YteanpgkonhdbpaaSrP
namespace Go.Proofs.Yteanpgkonhdbpaa
open Go.RowKit

/-- The law's store at first: its state. -/
theorem start9 {l : List Nat} (hl : ∀ y ∈ l, y < 4294967296) (h1 : 1 ≤ l.length) (h2 : l.length ≤ 32) :
    ∃ s, (instS (newD 8 16 50) l).2 = 0 ∧ strtS (newD 8 16 50) l = (s, 0) ∧ RunA s l ∧ s.r = 0 ∧ s.d.ns = 8 ∧ s.d.nw = 16 ∧ s.x0.opn = false ∧ s.x1 = newB 4 4 ∧ (∀ t, 4 ≤ t → t < 8 → s.d.worn.getD t 0 < s.d.lim) ∧ roomB s.d s.x1 = 32 := by
  have hf : FrQ (newD 8 16 50) := newD_fr (by decide) (by decide) (by decide) (by decide) (by decide) (by decide)
  obtain ⟨s, e1, e2, st, hh, hx1, hop, hr, ho, hw⟩ := inst_ok hf hl h1 h2
  have hok : SrOk (strtS (newD 8 16 50) l).1 := strtS_ok hf.q.ok hf.six hf.words hl
  have es : strtS (newD 8 16 50) l = ({ s with r := 0 }, 0) := by
    unfold strtS instS
    rw [e1]
    exact e2
  rw [es] at hok
  refine ⟨_, by unfold instS; rw [e1], es, ⟨hok, st.q, hh⟩, rfl, st.dims.ns, st.dims.nw, hop, hx1, fun t h4 h8 => ?_, ?_⟩
  · show s.d.worn.getD t 0 < s.d.lim
    rw [hw t (by show ¬ (t < 8 / 2); omega), st.dims.lim]
    exact hf.wear t h8
  · show roomB s.d s.x1 = 32
    rw [hx1]
    unfold roomB
    rw [st.dims.nw]
    rfl
def RetStart9 (w : World) (s : StS) (e : Ending) (w' : World) : Prop :=
  ∃ v : StW, e = .returned (.tuple #[.pointer (some ⟨v.g, 0, none⟩), .pointer (some ⟨v.gs, 0, none⟩)]) ∧ SrAt w' v s ∧ (∀ y ∈ v.all, w.heap.size ≤ y) ∧ Keep [] w w'
theorem lstart_any {l : List Nat} {s : StS} (A : Option Addr) (n c : Nat) (w : World) (hl : l.length = n) (h32 : ∀ y ∈ l, y < 4294967296) (hr : Reads w 1 A n (wordsV l)) (h1 : 1 ≤ n) (h2 : n ≤ 32) (e1 : (instS (newD 8 16 50) l).2 = 0) (e2 : strtS (newD 8 16 50) l = (s, 0)) :
    Calls Try.prog 51 #[.int .i64 8, .slice A n c] w (RetStart9 w s) := by
  have h := lnew_any 8 (newD 8 16 50) A n c l w (fun W => fnew_yes 8 16 50 W (by decide) (by decide) (by decide) (by decide) (by decide)) (newD_ok 8 16 50 (by decide) (by decide) (by decide) (by decide) (by decide)) (by decide) (by decide) hl h32 hr (by omega)
  refine h.mono ?_
  intro e w' hh
  unfold RetNew9 at hh
  rw [e1, e2, if_pos ⟨rfl, rfl⟩] at hh
  exact hh
/-- The row of candidates, opened. -/
theorem cndRow_at (l : List CndP) : ∀ (k : Nat) (hk : k < l.length) (j : Nat), j < 4 → (cndRow l)[k * 4 + j]? = (cpCells l[k])[j]? := by
  induction l with
  | nil => intro k hk; exact absurd hk (by simp)
  | cons e l ih =>
    intro k hk j hj
    rw [show cndRow (e :: l) = cpCells e ++ cndRow l from rfl]
    have h4 : (cpCells e).length = 4 := rfl
    cases k with
    | zero => rw [List.getElem?_append_left (by rw [h4]; omega)]; simp
    | succ k =>
      rw [List.getElem?_append_right (by rw [h4]; omega)]
      have : (k + 1) * 4 + j - (cpCells e).length = k * 4 + j := by rw [h4]; omega
      rw [this]
      simpa using ih k (by simpa using hk) j hj
theorem RetList.opened {w w' : World} {L : List Cnd} {e : Ending} (h : RetList w L e w') : ∃ (A : Option Addr) (c : Nat) (ps : List CndP), ps.map CndP.c = L ∧ e = .returned (.slice A L.length c) ∧ (0 < L.length → ∃ b o, A = some ⟨b, o, none⟩ ∧ b < w'.heap.size ∧ ∀ k, (hk : k < ps.length) → CellsAt w' b (o + k * 4) (cpCells ps[k])) ∧
    (∀ x ∈ ps, Reads w' 1 x.a x.c.words.length (wordsV x.c.words)) ∧ Keep [] w w' := by
  obtain ⟨A, c, ps, hp, rfl, hown, hws, k⟩ := h
  refine ⟨A, c, ps, hp, rfl, fun h0 => ?_, fun x hx => Reads.of_own (hws x hx), k⟩
  obtain ⟨b, o, e, hb, hc⟩ := (Reads.of_own hown).addr h0
  refine ⟨b, o, e, hb, fun k hk j u hu => ?_⟩
  have hj : j < 4 := (List.getElem?_eq_some_iff.1 hu).1
  have := hc (k * 4 + j) u (by rw [cndRow_at ps k hk j hj]; exact hu)
  rw [Nat.add_assoc]
  exact this
theorem reads_lit (w : World) (l : List Nat) (_h : 0 < l.length) : Reads (w.alloc (.cells (wordsV l).toArray 33)) 1 (some ⟨w.heap.size, 0, none⟩) l.length (wordsV l) := by
  have hb := Blk.new w 33 (wordsV l).toArray
  refine ⟨by simp [wordsV], fun _ => ⟨w.heap.size, 0, rfl, by simp, fun j u hj => ?_⟩⟩
  rw [Nat.zero_add]
  exact hb.cellsAt j u (by simpa using hj) |> fun h => by rw [Nat.zero_add] at h; exact h

set_option maxRecDepth 100000 in
set_option maxHeartbeats 2000000 in
theorem alive_any9 (w : World) : Calls Try.prog 42 #[] w fun e w' => e = .returned (.bool true) ∧ Keep [] w w' := by
  obtain ⟨s, i1, i2, hrun, hr, hns, hnw, hop, hx1, hwear, hroom⟩ := start9 (l := [1, 2]) (by decide) (by decide) (by decide)
  have HST : Hid (∀ W : World, Calls Try.prog 51 #[.int .i64 8, .slice (some ⟨W.heap.size, 0, none⟩) 2 2] (W.alloc (.cells #[.int .u32 1, .int .u32 2] 33)) (RetStart9 (W.alloc (.cells #[.int .u32 1, .int .u32 2] 33)) s)) := fun W =>
    lstart_any (some ⟨W.heap.size, 0, none⟩) 2 2 _ rfl (by decide) (reads_lit W [1, 2] (by decide)) (by decide) (by decide) i1 i2
  obtain ⟨s1, s2, s3, b1, b2, b3, b4, b5, b6, b7, r1, r2, r3, z1, z2, z3, hh⟩ := snd_ok (b := [3]) hrun hr (fun t h1 h2 => hwear t (by rw [hns] at h1; exact h1) (by rw [hns] at h2; exact h2)) (by decide) (by decide) (by rw [hroom]; decide)
  have HB : Hid (∀ (v : StW) (W : World), SrAt W v s → Calls Try.prog 48 #[.pointer (some ⟨v.gs, 0, none⟩)] W (RetSr W v s1 0)) := fun v W h => by
    have := sbegin_any v s W h hrun.ok
    rw [b1] at this
    exact this
  have HP : Hid (∀ (v : StW) (W : World), SrAt W v s1 → (∀ y ∈ v.all, y < W.heap.size) → Calls Try.prog 57 #[.pointer (some ⟨v.gs, 0, none⟩), .slice (some ⟨W.heap.size, 0, none⟩) 1 1] (W.alloc (.cells #[.int .u32 3] 33)) (RetSr (W.alloc (.cells #[.int .u32 3] 33)) v s2 0)) := fun v W h hlt => by
    have := sput_any v s1 (W.alloc (.cells #[.int .u32 3] 33)) (some ⟨W.heap.size, 0, none⟩) 1 1 [3] (h.keep0 ((Keep.refl [] W).alloc _)) r1.ok rfl (by decide) (reads_lit W [3] (by decide)) (fun _ ad ha hm => by cases ha; have := hlt _ hm; dsimp only at this; omega) (by decide)
    rw [b2] at this
    exact this
  have HC : Hid (∀ (v : StW) (W : World), SrAt W v s2 → Calls Try.prog 59 #[.pointer (some ⟨v.gs, 0, none⟩)] W (RetSr W v s3 0)) := fun v W h => by
    have := scommit_any v s2 W h r2.ok
    rw [b3] at this
    exact this
  have hcs := Two.cands ⟨r3, hh⟩
  rw [if_neg (by decide)] at hcs
  have HL : Hid (∀ (v : StW) (W : World), SrAt W v s3 → Calls Try.prog 45 #[.pointer (some ⟨v.gs, 0, none⟩)] W (RetList W [⟨1, 2, true, [3]⟩, ⟨0, 1, false, [1, 2]⟩])) := fun v W h => by
    have := slist_any v s3 W h r3.ok (by rw [hcs]; decide)
    rw [hcs] at this
    exact this
  clear b1 b2 b3 b4 b5 b6 b7 r1 r2 r3 z1 z2 z3 hh hcs i1 i2 hrun hr hns hnw hop hx1 hwear hroom
  go_enter Try.func42, Try.ntmps42
  go_wp2_with fail
  refine (HST.out _).mono ?_
  rintro e w1 ⟨v, rfl, hs1, hv1, k1⟩
  have HV : Hid (∀ y ∈ v.all, w.heap.size ≤ y) := fun y hy => by have := hv1 y hy; simp at this; omega
  have HK1 : Hid (Keep [] w w1) := ((Keep.refl [] w).alloc _).then k1
  have HS1 := Lib.hid hs1
  have hb1 := HB.out v w1 hs1
  clear hv1 k1 hs1
  go_upto_region 4 with fail
  go_wp2_with fail
  refine hb1.mono ?_
  rintro e w2 ⟨rfl, hs2, k2⟩
  have HK2 : Hid (Keep [] w w2) := HK1.out.trans k2 (fun y hy h => by have := HV.out y hy; omega)
  have hb2 := HP.out v w2 hs2 hs2.lt
  clear hs2 k2 hb1 HS1
  go_wp2_with (refine hb2.mono ?_; rintro e w3 ⟨rfl, hs3, k3⟩)
  have HK3 : Hid (Keep [] w w3) := (HK2.out.alloc (.cells #[.int .u32 3] 33)).trans k3 (fun y hy h => by have := HV.out y hy; omega)
  have hb3 := HC.out v w3 hs3
  clear hs3 k3 hb2
  go_wp2_with fail
  refine hb3.mono ?_
  rintro e w4 ⟨rfl, hs4, k4⟩
  have HK4 : Hid (Keep [] w w4) := HK3.out.trans k4 (fun y hy h => by have := HV.out y hy; omega)
  have hb4 := HL.out v w4 hs4
  clear hs4 k4 hb3
  go_wp2_with fail
  refine hb4.mono ?_
  intro e w5 hret
  obtain ⟨A, c, ps, hp, rfl, hc, hws, k5⟩ := hret.opened
  obtain ⟨b, o, rfl, hbl, hcc⟩ := hc (by decide)
  match ps, hp with
  | [⟨p0, q0, u0⟩, ⟨p1, q1, u1⟩], hp =>
  simp only [List.map_cons, List.map_nil, List.cons.injEq, and_true] at hp
  obtain ⟨rfl, rfl⟩ := hp
  have f0 := hcc 0 (by simp)
  have f1 := hcc 1 (by simp)
  have c00 : w5.cell? ⟨b, o, none⟩ = some (.int .i64 1) := f0 0 _ rfl
  have c01 : w5.cell? ⟨b, o + 1, none⟩ = some (.int .u32 2) := f0 1 _ rfl
  have c02 : w5.cell? ⟨b, o + 2, none⟩ = some (.bool true) := f0 2 _ rfl
  have c12 : w5.cell? ⟨b, o + 4 + 2, none⟩ = some (.bool false) := f1 2 _ rfl
  have c13 : w5.cell? ⟨b, o + 4 + 3, none⟩ = some (.slice q1 2 u1) := f1 3 _ rfl
  have hR := hws _ (List.mem_cons_of_mem _ (List.mem_singleton.2 rfl))
  have hrow : Calls Try.prog 55 #[.slice q1 2 u1, .slice (some ⟨w5.heap.size, 0, none⟩) 2 2] (w5.alloc (.cells #[.int .u32 1, .int .u32 2] 33)) fun e w' => e = .returned (.bool true) ∧ Keep [] (w5.alloc (.cells #[.int .u32 1, .int .u32 2] 33)) w' := srow_any q1 (some ⟨w5.heap.size, 0, none⟩) u1 2 [1, 2] [1, 2] (w5.alloc (.cells #[.int .u32 1, .int .u32 2] 33)) (hR.keep0 ((Keep.refl [] w5).alloc _)) (reads_lit w5 [1, 2] (by decide)) (by decide) (by decide)
  have HK5 := Lib.hid (HK4.out.then k5)
  clear hcc hc f0 f1 hws hR k5 hret hb4
  go_wp2_with (refine hrow.mono ?_; rintro e w6 ⟨rfl, k6⟩)
  go_ret
  exact ⟨rfl, (HK5.out.alloc _).then k6⟩
end Go.Proofs.Yteanpgkonhdbpaa
