/- A journal's places, read; walked. Condition: the device is one that may be. A journal's entry of four words; whether a place is blank; walked. No condition. A journal's blank places passed over; walked. Condition: the device is one that may be. -/
import Derived.Test.YteanpgkonhdbpaaFlashSect
import Derived.Test.YteanpgkonhdbpaaJrStep
import Derived.Test.YteanpgkonhdbpaaFlow
import Derived.Test.YteanpgkonhdbpaaPend
namespace Go.Proofs.Yteanpgkonhdbpaa
open Go.RowKit

theorem own_some {W : World} {base : Nat} {e : TypeId} {size n : Nat} {v : Value} {xs : List Value} (h : W.ownsRow base e size v n xs) (h0 : 0 < n) : ∃ g c, v = .slice (some ⟨g, 0, none⟩) n c ∧ base ≤ g ∧ g < W.heap.size ∧ ∃ cs, W.heap[g]? = some (.cells cs e (0, 0)) := by
  rcases h.2 with ⟨_, h2⟩ | ⟨g', cap, cur, hv, hg, hh, _⟩
  · omega
  · exact ⟨g', cap, hv, hg, (Array.getElem?_eq_some_iff.1 hh).1, cur, hh⟩
/-- A journal in memory. -/
structure JrAt (W : World) (gj g : Nat) (j : JS) : Prop where
  blk : Blk W gj 114 #[.pointer (some ⟨g, 0, none⟩), .int .i64 j.base, .int .i64 j.many, .int .i64 j.sector, .int .i64 j.at_, .int .u32 (j.next : Int)]
theorem JrAt.keep {W W' : World} {gj g : Nat} {j : JS} {F : List Nat} (h : JrAt W gj g j) (k : Keep F W W') (hF : gj ∉ F) : JrAt W' gj g j := ⟨h.blk.keep k hF⟩
theorem JrAt.keep0 {W W' : World} {gj g : Nat} {j : JS} (h : JrAt W gj g j) (k : Keep [] W W') : JrAt W' gj g j := h.keep k (by simp)
theorem DevAt.keep0 {w w' : World} {g b1 b2 : Nat} {d : Dev} (h : DevAt w g b1 b2 d) (k : Keep [] w w') : DevAt w' g b1 b2 d := h.keep k (by simp) (by simp) (by simp)
theorem JrAt.cells {W : World} {gj g : Nat} {j : JS} (h : JrAt W gj g j) : W.cell? ⟨gj, 0, none⟩ = some (.pointer (some ⟨g, 0, none⟩)) ∧ W.cell? ⟨gj, 1, none⟩ = some (.int .i64 j.base) ∧ W.cell? ⟨gj, 2, none⟩ = some (.int .i64 j.many) ∧
    W.cell? ⟨gj, 3, none⟩ = some (.int .i64 j.sector) ∧ W.cell? ⟨gj, 4, none⟩ = some (.int .i64 j.at_) ∧ W.cell? ⟨gj, 5, none⟩ = some (.int .u32 (j.next : Int)) :=
  ⟨h.blk.cell 0, h.blk.cell 1, h.blk.cell 2, h.blk.cell 3, h.blk.cell 4, h.blk.cell 5⟩

theorem xor_ones {a : Nat} (h : a < 4294967296) : 4294967295 ^^^ a = 4294967295 - a := by
  apply Nat.eq_of_testBit_eq
  intro i
  rw [Nat.testBit_xor, cpl_bit h, ones_bit]
  rcases Nat.lt_or_ge i 32 with g | g
  · simp [g]
  · rw [bit_hi h g]; simp [Nat.not_lt.2 g]
theorem u32_not {a : Nat} (h : a < 4294967296) : bits .xor .u32 IntKind.u32.max (a : Int) = ((4294967295 - a : Nat) : Int) := by
  have := u32_xor_nat 4294967295 a (by decide) h
  rw [xor_ones h] at this
  rw [← this]
  rfl
theorem fourJ_len (w n : Nat) : (fourJ w n).length = 4 := rfl
/-- A place's four words. -/
def slotL (d : Dev) (s a : Nat) : List Nat := [wdJ d s (a * 4), wdJ d s (a * 4 + 1), wdJ d s (a * 4 + 2), wdJ d s (a * 4 + 3)]

set_option maxRecDepth 100000 in
set_option maxHeartbeats 1000000 in
theorem right_any05 (a b : Nat) (w : World) (ha : a < 4294967296) :
    Calls Try.prog 116 #[.agg #[.int .u32 (a : Int), .int .u32 (b : Int)]] w fun e w' => e = .returned (.bool (twinJ a b)) ∧ Keep [] w w' := by
  have HT : Hid (twinJ a b = ((b : Int) == bits .xor .u32 IntKind.u32.max (a : Int))) := by
    show _ = _
    rw [u32_not ha]
    unfold twinJ
    rw [Bool.eq_iff_iff, beq_iff_eq, beq_iff_eq]
    omega
  have K1 := (Keep.refl [] w).alloc (.cells #[.int .u32 (a : Int), .int .u32 (b : Int)] 185)
  go_enter Try.func116, Try.ntmps116
  go_wp2
  go_ret
  exact ⟨by rw [HT.out]; rfl, K1⟩

set_option maxRecDepth 100000 in
set_option maxHeartbeats 1000000 in
theorem slots_any (gj g b1 b2 : Nat) (d : Dev) (j : JS) (w : World) (hd : DevAt w g b1 b2 d) (ho : d.Ok) (hj : JrAt w gj g j) :
    Calls Try.prog 64 #[.pointer (some ⟨gj, 0, none⟩)] w fun e w' => e = .returned (.int .i64 ((d.nw / 4 : Nat) : Int)) ∧ w = w' := by
  obtain ⟨c0, _⟩ := hj.cells
  have HW := Lib.hid (fwords_any g b1 b2 d w hd)
  have hnw := ho.nw2
  have hq : ((d.nw / 4 : Nat) : Int) = (d.nw : Int) / 4 := by omega
  rw [hq]
  clear hd hj ho hq
  go_enter Try.func64, Try.ntmps64
  go_wp2_with fail
  refine HW.out.mono ?_
  rintro e w1 ⟨rfl, rfl⟩
  go_wp2
  go_ret
  exact ⟨rfl, rfl⟩
set_option maxRecDepth 100000 in
set_option maxHeartbeats 1000000 in
theorem slot_any (gj g b1 b2 : Nat) (d : Dev) (j : JS) (s a : Nat) (w : World) (hd : DevAt w g b1 b2 d) (ho : d.Ok) (hj : JrAt w gj g j) (hs : j.base + s < d.ns) (ha : a < d.nw / 4) :
    Calls Try.prog 97 #[.pointer (some ⟨gj, 0, none⟩), .int .i64 (s : Int), .int .i64 (a : Int)] w fun e w' =>
      (∃ b o c, e = .returned (.slice (some ⟨b, o, none⟩) 4 c) ∧ Reads w' 1 (some ⟨b, o, none⟩) 4 (wordsV (slotL d (j.base + s) a))) ∧ Keep [] w w' := by
  have hcs := hj.cells
  obtain ⟨c0, c1, _⟩ := hcs
  have hnw := ho.nw2
  have hns := ho.ns2
  have HSC : Hid (∀ W, Keep [] w W → Calls Try.prog 39 #[.pointer (some ⟨g, 0, none⟩), .int .i64 ((j.base : Int) + (s : Int))] W (RetWords W (sectL d (j.base + s)))) := fun W hk => by
    have := fsector_any g b1 b2 d ((j.base : Int) + (s : Int)) W (hd.keep0 hk) ho
    rw [show sectS d ((j.base : Int) + (s : Int)) = sectL d (j.base + s) by unfold sectS; rw [if_pos (by omega), show ((j.base : Int) + (s : Int)).toNat = j.base + s by omega]] at this
    exact this
  have HSL : Hid ((sectL d (j.base + s)).length = d.nw) := sectL_len d ho _ hs
  have HSG : Hid (∀ i, i < 4 → (wordsV (sectL d (j.base + s)))[a * 4 + i]? = (wordsV (slotL d (j.base + s) a))[i]?) := fun i hi => by
    have h1 : a * 4 + i < d.nw := by omega
    have h2 := sectL_get d (j.base + s) (a * 4 + i) h1
    have h3 : (sectL d (j.base + s))[a * 4 + i]? = some (wdJ d (j.base + s) (a * 4 + i)) := by
      rw [h2]
      unfold wdJ
      rw [List.getD_eq_getElem?_getD, List.getElem?_eq_getElem (in_bits ho hs h1)]
      rfl
    rw [List.getElem?_map, h3]
    have hi' : i = 0 ∨ i = 1 ∨ i = 2 ∨ i = 3 := by omega
    rcases hi' with rfl | rfl | rfl | rfl <;> rfl
  have hw1 : IntKind.i64.wrap ((j.base : Int) + (s : Int)) = ((j.base + s : Nat) : Int) := by rw [show (j.base : Int) + (s : Int) = ((j.base + s : Nat) : Int) by omega]; exact IntWalk.i64_in _ (by omega)
  have hw2 : IntKind.i64.wrap ((a : Int) * 4) = ((a * 4 : Nat) : Int) := by rw [show (a : Int) * 4 = ((a * 4 : Nat) : Int) by omega]; exact IntWalk.i64_in _ (by omega)
  have hw3 : IntKind.i64.wrap ((a : Int) + 1) = (a : Int) + 1 := IntWalk.i64_in _ (by omega)
  have hw4 : IntKind.i64.wrap (((a : Int) + 1) * 4) = ((a * 4 + 4 : Nat) : Int) := by rw [show ((a : Int) + 1) * 4 = ((a * 4 + 4 : Nat) : Int) by omega]; exact IntWalk.i64_in _ (by omega)
  have hal : a * 4 + 4 ≤ d.nw := by omega
  clear hd ho hj
  go_enter Try.func97, Try.ntmps97
  go_wp2
  go_still_tail 10, (by kernel_rfl)
  change wpList _ _ _ _ _ w.drew
  go_wp2_with fail
  refine (HSC.out _ (Keep.refl [] w).drew).mono ?_
  rintro e w1 ⟨A, c, rfl, hown, k1⟩
  have K1 : Keep [] w w1 := (Keep.refl [] w).drew.then k1
  rw [HSL.out] at hown ⊢
  obtain ⟨gs, cs, e1, _, hgs, _⟩ := own_some hown (by omega)
  cases e1
  have hcapf : d.nw ≤ c := by
    rcases hown.2 with ⟨h1, _⟩ | ⟨_, _, _, h1, _, _, h2, _⟩
    · cases h1
    · cases h1; exact h2
  have HRD : Hid (Reads w1 1 (some ⟨gs, a * 4, none⟩) 4 (wordsV (slotL d (j.base + s) a))) := by
    refine ⟨rfl, fun _ => ⟨gs, a * 4, rfl, hgs, fun i u hu => ?_⟩⟩
    have hi : i < 4 := by
      have := (List.getElem?_eq_some_iff.1 hu).1
      simpa [slotL] using this
    obtain ⟨b', o', e2, _, hc⟩ := (Reads.of_own hown).addr (by omega)
    cases e2
    have := hc (a * 4 + i) u (by rw [HSG.out i hi]; exact hu)
    rwa [Nat.zero_add] at this
  have HK1 := Lib.hid K1
  clear hown k1 K1 HSC
  have q1 : (0 : Int) ≤ (a : Int) * 4 + 4 := by omega
  have q2 : (a : Int) * 4 + 4 ≤ (c : Int) := by omega
  have q3 : (0 : Int) ≤ (a : Int) * 4 := by omega
  have q4 : (a : Int) * 4 ≤ (a : Int) * 4 + 4 := by omega
  have q5 : (c = a * 4) = False := eq_false (by omega)
  have q6 : (a * 4 = c) = False := eq_false (by omega)
  have q7 : a * 4 < c := by omega
  have h44 : a * 4 + 4 - a * 4 = 4 := by omega
  go_wp2
  go_ret
  refine ⟨⟨gs, a * 4, c - a * 4, ?_, HRD.out⟩, HK1.out⟩
  show Ending.returned (.slice (some ⟨gs, a * 4, none⟩) (a * 4 + 4 - a * 4) (c - a * 4)) = _
  rw [h44]
end Go.Proofs.Yteanpgkonhdbpaa

namespace Go.Proofs.Yteanpgkonhdbpaa
open Go.RowKit

section
variable {P : Program} {ops : Array Oper} {Q : Exit → Act → World → Prop} {md : Region.Mode} {S : World → Prop} {p : Nat} {fuel : Nat} {listed : Array Bool} {a : Act} {w : World}
/-- One of two operations comes up. -/
theorem ap_twoJ (i j : Nat) (hr : Region.ready md ops listed = [i, j]) (h : wpOp P ops Q i (fun a' w' => ((listed.setIfInBounds i true).getD p true = false → S w') ∧ wpAnyP P md ops Q p S fuel (listed.setIfInBounds i true) a' w') a w)
    (h' : wpOp P ops Q j (fun a' w' => ((listed.setIfInBounds j true).getD p true = false → S w') ∧ wpAnyP P md ops Q p S fuel (listed.setIfInBounds j true) a' w') a w) : wpAnyP P md ops Q p S (fuel + 1) listed a w :=
  ⟨fun h0 => (by rw [hr] at h0; cases h0), fun k hk => by
    rw [hr] at hk
    simp only [List.mem_cons, List.not_mem_nil, or_false] at hk
    rcases hk with rfl | rfl
    · exact h
    · exact h'⟩
end
theorem agg_pair : AggOf Try.prog 185 2 := ⟨by kernel_rfl, by kernel_rfl⟩
theorem agg_entry : AggOf Try.prog 46 2 := ⟨by kernel_rfl, by kernel_rfl⟩
/-- An entry's cells. -/
def entC (e : Nat × Nat) : List Value := [.int .u32 (e.1 : Int), .int .u32 (e.2 : Int)]
theorem entC_one (e : Nat × Nat) : ∀ u ∈ entC e, u.oneCell' = true := by
  intro u hu
  simp [entC] at hu
  rcases hu with rfl | rfl <;> rfl
/-- A struct and a value are handed back. -/
theorem results_cell_tmpJ {P : Program} {w : World} {fn : Func} {p q : Tmp} {ty : TypeId} (h : fn.results = #[.cell p ty, .tmp q]) (tmps : Array Value) {g t : Nat} {vs : List Value} {v : Value} (hp : tmps.getD p undef = .pointer (some ⟨g, 0, none⟩)) (hq : tmps.getD q undef = v)
    (hb : Blk w g t vs.toArray) (hA : AggOf P ty vs.length) : (results fn tmps).run P w = .ok (.tuple #[.agg vs.toArray, v]) w := results_cell_tmp h tmps hp hq hb hA
/-- What reading a place answers. -/
def RetE (w : World) (r : Option (Nat × Nat)) (e : Ending) (w' : World) : Prop := e = .returned (.tuple #[.agg (entC (r.getD (0, 0))).toArray, .bool r.isSome]) ∧ Keep [] w w'

set_option maxRecDepth 100000 in
set_option maxHeartbeats 4000000 in
theorem read_any47 (A : Addr) (c : Nat) (x0 x1 x2 x3 : Nat) (w : World) (hr : Reads w 1 (some A) 4 (wordsV [x0, x1, x2, x3])) (h0 : x0 < 4294967296) (_h1 : x1 < 4294967296) (h2 : x2 < 4294967296) (_h3 : x3 < 4294967296) :
    Calls Try.prog 96 #[.slice (some A) 4 c] w (RetE w (ent4 x0 x1 x2 x3)) := by
  obtain ⟨b, o, hA, hb, hc⟩ := hr.addr (by omega)
  cases hA
  have hcell : ∀ W, Keep [] w W → W.cell? ⟨b, o, none⟩ = some (.int .u32 (x0 : Int)) ∧ W.cell? ⟨b, o + 1, none⟩ = some (.int .u32 (x1 : Int)) ∧ W.cell? ⟨b, o + 2, none⟩ = some (.int .u32 (x2 : Int)) ∧ W.cell? ⟨b, o + 3, none⟩ = some (.int .u32 (x3 : Int)) := fun W hk =>
    ⟨by rw [hk.cell hb (by simp)]; exact hc 0 _ rfl, by rw [hk.cell hb (by simp)]; exact hc 1 _ rfl, by rw [hk.cell hb (by simp)]; exact hc 2 _ rfl, by rw [hk.cell hb (by simp)]; exact hc 3 _ rfl⟩
  have HR1 := fun W => Lib.hid (right_any05 x0 x1 W h0)
  have HR2 := fun W => Lib.hid (right_any05 x2 x3 W h2)
  have HE : Hid (ent4 x0 x1 x2 x3 = if twinJ x0 x1 = true ∧ twinJ x2 x3 = true ∧ x2 ≠ 0 ∧ x2 ≤ 1073741824 then some (x2, x0) else none) := show _ = _ from rfl
  have hsz : w.heap.size ≤ w.heap.size := Nat.le_refl _
  clear hr hc hb hsz
  obtain ⟨t1, ht1⟩ : ∃ t, twinJ x0 x1 = t := ⟨_, rfl⟩
  obtain ⟨t2, ht2⟩ : ∃ t, twinJ x2 x3 = t := ⟨_, rfl⟩
  rw [ht1] at HR1 HE
  rw [ht2] at HR2 HE
  clear ht1 ht2
  go_enter Try.func96, Try.ntmps96
  have KA : Keep [] w (w.alloc (.cells #[.int .u32 0, .int .u32 0] 46)) := (Keep.refl [] w).alloc _
  have hB0 := Blk.new w 46 #[.int .u32 0, .int .u32 0]
  have hF : ∀ W, Keep [] (w.alloc (.cells #[.int .u32 0, .int .u32 0] 46)) W → W.cell? ⟨b, o, none⟩ = some (.int .u32 (x0 : Int)) ∧ W.cell? ⟨b, o + 1, none⟩ = some (.int .u32 (x1 : Int)) ∧ W.cell? ⟨b, o + 2, none⟩ = some (.int .u32 (x2 : Int)) ∧ W.cell? ⟨b, o + 3, none⟩ = some (.int .u32 (x3 : Int)) := fun W hk => hcell W (KA.then hk)
  clear hcell
  go_upto_region 1 with fail
  generalize w.alloc (.cells #[.int .u32 0, .int .u32 0] 46) = w0 at *
  have hg0 := hB0.lt
  refine ap_begin 17 (Keep [] w0) rfl (Keep.refl _ _).drew (fun hS hPan => ?_) (fun _ _ d _ _ h => by cases d <;> exact h)
  (refine ap_val (v := ?_) 0 rfl (by kernel_rfl) (by kernel_rfl) (by kernel_rfl) (by kernel_rfl) (by rfl) hPan ?_ hS ?_; rotate_left; (intro w' hSw; go_simp; try with_reducible rfl); simp only [Act.put, List.setIfInBounds_toArray, List.set_cons_zero, List.set_cons_succ])
  (refine ap_val (v := ?_) 1 rfl (by kernel_rfl) (by kernel_rfl) (by kernel_rfl) (by kernel_rfl) (by rfl) hPan ?_ hS ?_; rotate_left; (intro w' hSw; go_simp; try with_reducible rfl); simp only [Act.put, List.setIfInBounds_toArray, List.set_cons_zero, List.set_cons_succ])
  (refine ap_val (v := ?_) 2 rfl (by kernel_rfl) (by kernel_rfl) (by kernel_rfl) (by kernel_rfl) (by rfl) hPan ?_ hS ?_; rotate_left; (intro w' hSw; obtain ⟨f1,f2,f3,f4⟩ := hF w' hSw; go_simp; try with_reducible rfl); simp only [Act.put, List.setIfInBounds_toArray, List.set_cons_zero, List.set_cons_succ])
  (refine ap_val (v := ?_) 3 rfl (by kernel_rfl) (by kernel_rfl) (by kernel_rfl) (by kernel_rfl) (by rfl) hPan ?_ hS ?_; rotate_left; (intro w' hSw; go_simp; try with_reducible rfl); simp only [Act.put, List.setIfInBounds_toArray, List.set_cons_zero, List.set_cons_succ])
  (refine ap_val (v := ?_) 4 rfl (by kernel_rfl) (by kernel_rfl) (by kernel_rfl) (by kernel_rfl) (by rfl) hPan ?_ hS ?_; rotate_left; (intro w' hSw; go_simp; try with_reducible rfl); simp only [Act.put, List.setIfInBounds_toArray, List.set_cons_zero, List.set_cons_succ])
  (refine ap_val (v := ?_) 5 rfl (by kernel_rfl) (by kernel_rfl) (by kernel_rfl) (by kernel_rfl) (by rfl) hPan ?_ hS ?_; rotate_left; (intro w' hSw; obtain ⟨f1,f2,f3,f4⟩ := hF w' hSw; go_simp; try with_reducible rfl); simp only [Act.put, List.setIfInBounds_toArray, List.set_cons_zero, List.set_cons_succ])
  (refine ap_val (v := ?_) 6 rfl (by kernel_rfl) (by kernel_rfl) (by kernel_rfl) (by kernel_rfl) (by rfl) hPan ?_ hS ?_; rotate_left; (intro w' hSw; go_simp; try with_reducible rfl); simp only [Act.put, List.setIfInBounds_toArray, List.set_cons_zero, List.set_cons_succ])
  (refine ap_val (v := ?_) 7 rfl (by kernel_rfl) (by kernel_rfl) (by kernel_rfl) (by kernel_rfl) (by rfl) hPan ?_ hS ?_; rotate_left; (intro w' hSw; go_simp; try with_reducible rfl); simp only [Act.put, List.setIfInBounds_toArray, List.set_cons_zero, List.set_cons_succ])
  (refine ap_val (v := ?_) 8 rfl (by kernel_rfl) (by kernel_rfl) (by kernel_rfl) (by kernel_rfl) (by rfl) hPan ?_ hS ?_; rotate_left; (intro w' hSw; go_simp; try with_reducible rfl); simp only [Act.put, List.setIfInBounds_toArray, List.set_cons_zero, List.set_cons_succ])
  (refine ap_val (v := ?_) 9 rfl (by kernel_rfl) (by kernel_rfl) (by kernel_rfl) (by kernel_rfl) (by rfl) hPan ?_ hS ?_; rotate_left; (intro w' hSw; obtain ⟨f1,f2,f3,f4⟩ := hF w' hSw; go_simp; try with_reducible rfl); simp only [Act.put, List.setIfInBounds_toArray, List.set_cons_zero, List.set_cons_succ])
  (refine ap_val (v := ?_) 10 rfl (by kernel_rfl) (by kernel_rfl) (by kernel_rfl) (by kernel_rfl) (by rfl) hPan ?_ hS ?_; rotate_left; (intro w' hSw; go_simp; try with_reducible rfl); simp only [Act.put, List.setIfInBounds_toArray, List.set_cons_zero, List.set_cons_succ])
  (refine ap_val (v := ?_) 11 rfl (by kernel_rfl) (by kernel_rfl) (by kernel_rfl) (by kernel_rfl) (by rfl) hPan ?_ hS ?_; rotate_left; (intro w' hSw; go_simp; try with_reducible rfl); simp only [Act.put, List.setIfInBounds_toArray, List.set_cons_zero, List.set_cons_succ])
  (refine ap_val (v := ?_) 12 rfl (by kernel_rfl) (by kernel_rfl) (by kernel_rfl) (by kernel_rfl) (by rfl) hPan ?_ hS ?_; rotate_left; (intro w' hSw; obtain ⟨f1,f2,f3,f4⟩ := hF w' hSw; go_simp; try with_reducible rfl); simp only [Act.put, List.setIfInBounds_toArray, List.set_cons_zero, List.set_cons_succ])
  (refine ap_val (v := ?_) 13 rfl (by kernel_rfl) (by kernel_rfl) (by kernel_rfl) (by kernel_rfl) (by rfl) hPan ?_ hS ?_; rotate_left; (intro w' hSw; go_simp; try with_reducible rfl); simp only [Act.put, List.setIfInBounds_toArray, List.set_cons_zero, List.set_cons_succ])
  generalize w0.drew = wd at *
  refine ap_twoJ 14 15 (by kernel_rfl) ?ta ?tb
  case' ta =>
    refine op_run (v := .pointer (some ⟨wd.heap.size, 0, none⟩)) (w' := wd.alloc (.cells #[.int .u32 0, .int .u32 0] 185)) 14 rfl (by rfl) (by go_simp) ?_
    refine ⟨fun _ => hS.alloc _, ?_⟩
    (simp only [Act.put, List.setIfInBounds_toArray, List.set_cons_zero, List.set_cons_succ])
    have hP1 := Blk.new wd 185 #[.int .u32 0, .int .u32 0]
    have hz1 := hS.size
    replace hS := hS.alloc (.cells #[.int .u32 0, .int .u32 0] 185)
    obtain ⟨g4, hg1⟩ : ∃ g, wd.heap.size = g := ⟨_, rfl⟩
    rw [hg1] at hP1 hz1 ⊢
    generalize wd.alloc (.cells #[.int .u32 0, .int .u32 0] 185) = we at *
    refine ap_one 15 (by kernel_rfl) ?_
    refine op_run (v := .pointer (some ⟨we.heap.size, 0, none⟩)) (w' := we.alloc (.cells #[.int .u32 0, .int .u32 0] 185)) 15 rfl (by rfl) (by go_simp) ?_
    refine ⟨fun _ => hS.alloc _, ?_⟩
    (simp only [Act.put, List.setIfInBounds_toArray, List.set_cons_zero, List.set_cons_succ])
    have hP2 := Blk.new we 185 #[.int .u32 0, .int .u32 0]
    have hlt := hP1.lt
    have hz2 := hS.size
    replace hP1 := hP1.alloc (.cells #[.int .u32 0, .int .u32 0] 185)
    replace hS := hS.alloc (.cells #[.int .u32 0, .int .u32 0] 185)
    obtain ⟨g5, hg2⟩ : ∃ g, we.heap.size = g := ⟨_, rfl⟩
    rw [hg2] at hP2 hlt hz2 ⊢
    generalize we.alloc (.cells #[.int .u32 0, .int .u32 0] 185) = wf at *
    have hne : g4 ≠ g5 := by omega
    have P4 : Blk wf g4 185 #[.int .u32 0, .int .u32 0] := hP1
    have P5 : Blk wf g5 185 #[.int .u32 0, .int .u32 0] := hP2
    clear hP1 hP2 hg1 hg2
  case' tb =>
    refine op_run (v := .pointer (some ⟨wd.heap.size, 0, none⟩)) (w' := wd.alloc (.cells #[.int .u32 0, .int .u32 0] 185)) 15 rfl (by rfl) (by go_simp) ?_
    refine ⟨fun _ => hS.alloc _, ?_⟩
    (simp only [Act.put, List.setIfInBounds_toArray, List.set_cons_zero, List.set_cons_succ])
    have hP1 := Blk.new wd 185 #[.int .u32 0, .int .u32 0]
    have hz1 := hS.size
    replace hS := hS.alloc (.cells #[.int .u32 0, .int .u32 0] 185)
    obtain ⟨g5, hg1⟩ : ∃ g, wd.heap.size = g := ⟨_, rfl⟩
    rw [hg1] at hP1 hz1 ⊢
    generalize wd.alloc (.cells #[.int .u32 0, .int .u32 0] 185) = we at *
    refine ap_one 14 (by kernel_rfl) ?_
    refine op_run (v := .pointer (some ⟨we.heap.size, 0, none⟩)) (w' := we.alloc (.cells #[.int .u32 0, .int .u32 0] 185)) 14 rfl (by rfl) (by go_simp) ?_
    refine ⟨fun _ => hS.alloc _, ?_⟩
    (simp only [Act.put, List.setIfInBounds_toArray, List.set_cons_zero, List.set_cons_succ])
    have hP2 := Blk.new we 185 #[.int .u32 0, .int .u32 0]
    have hlt := hP1.lt
    have hz2 := hS.size
    replace hP1 := hP1.alloc (.cells #[.int .u32 0, .int .u32 0] 185)
    replace hS := hS.alloc (.cells #[.int .u32 0, .int .u32 0] 185)
    obtain ⟨g4, hg2⟩ : ∃ g, we.heap.size = g := ⟨_, rfl⟩
    rw [hg2] at hP2 hlt hz2 ⊢
    generalize we.alloc (.cells #[.int .u32 0, .int .u32 0] 185) = wf at *
    have hne : g4 ≠ g5 := by omega
    have P4 : Blk wf g4 185 #[.int .u32 0, .int .u32 0] := hP2
    have P5 : Blk wf g5 185 #[.int .u32 0, .int .u32 0] := hP1
    clear hP1 hP2 hg1 hg2
  all_goals
    refine ap_one 16 (by kernel_rfl) ?_
    refine op_store_all 16 rfl (by rfl) rfl rfl rfl (vs := [.int .u32 (x0 : Int), .int .u32 (x1 : Int)]) agg_pair.2 P4 (by intro u hu; simp at hu; rcases hu with rfl | rfl <;> rfl) rfl ?_
    intro w3 d3 k3
    have hS3 : Keep [] w0 w3 := hS.trans k3 (fun y hy hlt => by simp at hy; omega)
    have P6 := P5.keep k3 (by simp; omega)
    refine ⟨fun _ => hS3, ?_⟩
    (simp only [Act.put])
    refine ap_one 17 (by kernel_rfl) ?_
    refine op_store_all 17 rfl (by rfl) rfl rfl rfl (vs := [.int .u32 (x2 : Int), .int .u32 (x3 : Int)]) agg_pair.2 P6 (by intro u hu; simp at hu; rcases hu with rfl | rfl <;> rfl) rfl ?_
    intro w4 d4 k4
    have hS4 : Keep [] w0 w4 := hS3.trans k4 (fun y hy hlt => by simp at hy; omega)
    have d5 := d3.keep k4 (by simp; omega)
    refine ⟨fun h => (by cases h), ap_done (by kernel_rfl) ?_ _⟩
    (simp only [Act.put])
    have hB4 := hB0.keep0 hS4
    have K4 := Lib.hid (KA.then hS4)
    have HB4 := Lib.hid hB4
    have HD4 := Lib.hid d4
    have HD5 := Lib.hid d5
    have c50 := d4.cell 0
    simp at c50
    have hgz : g4 ≠ w.heap.size ∧ g5 ≠ w.heap.size := by omega
    clear hS hPan hS3 P6 P4 P5 k3 k4 hS4 hF d3 hB0 KA hB4 d4 d5 hz1 hz2 hlt
    cases t1
    · have HN : Hid (ent4 x0 x1 x2 x3 = none) := by show _ = _; rw [HE.out, if_neg (by simp)]
      clear HE HR2
      go_wp2_with (first
        | (refine wpList_load_agg rfl 185 (.tmp 4) rfl rfl (cs := [.int .u32 (x0 : Int), .int .u32 (x1 : Int)]) agg_pair HD5.out.cellsAt ?_)
        | (refine (HR1 _).out.mono ?_; clear HR1; rintro e w5 ⟨rfl, k5⟩)
        | (refine stop_store 46 (.tmp 2) (.tmp 38) rfl ?_))
      constructor
      refine wpList_store_all rfl 46 (.tmp 2) (.tmp 38) rfl rfl rfl (vs := entC (0, 0)) agg_entry.2 (HB4.out.keep0 k5) (entC_one _) rfl ?_
      intro w6 d6 k6
      go_wp2
      refine bodyPost_ret (results_cell_tmp rfl _ rfl rfl d6 agg_entry) rfl ?_
      rw [HN.out]
      exact ⟨rfl, (K4.out.then k5).trans k6 (fun y hy hlt => by simp at hy; omega)⟩
    · cases t2
      · have HN : Hid (ent4 x0 x1 x2 x3 = none) := by show _ = _; rw [HE.out, if_neg (by simp)]
        clear HE
        go_wp2_with (first
          | (refine wpList_load_agg rfl 185 (.tmp 4) rfl rfl (cs := [.int .u32 (x0 : Int), .int .u32 (x1 : Int)]) agg_pair HD5.out.cellsAt ?_)
          | (refine (HR1 _).out.mono ?_; clear HR1; rintro e w5 ⟨rfl, k5⟩)
          | (refine stop_at 24 rfl ?_))
        constructor
        refine wpList_agg_gd (by rfl) 185 (.tmp 5) rfl rfl (cs := [.int .u32 (x2 : Int), .int .u32 (x3 : Int)]) agg_pair (HD4.out.keep0 k5).cellsAt ?_
        go_wp2_with (first
          | (refine (HR2 _).out.mono ?_; clear HR2; rintro e w7 ⟨rfl, k7⟩)
          | (refine stop_store 46 (.tmp 2) (.tmp 38) rfl ?_))
        constructor
        refine wpList_store_all rfl 46 (.tmp 2) (.tmp 38) rfl rfl rfl (vs := entC (0, 0)) agg_entry.2 (HB4.out.keep0 (k5.then k7)) (entC_one _) rfl ?_
        intro w6 d6 k6
        go_wp2
        refine bodyPost_ret (results_cell_tmp rfl _ rfl rfl d6 agg_entry) rfl ?_
        rw [HN.out]
        exact ⟨rfl, ((K4.out.then k5).then k7).trans k6 (fun y hy hlt => by simp at hy; omega)⟩
      · have hc4 : ∀ W, Keep [] w4 W → W.cell? ⟨g5, 0, none⟩ = some (.int .u32 (x2 : Int)) := fun W hk => (HD4.out.keep0 hk).cell 0
        have hc5 : ∀ W, Keep [] w4 W → W.cell? ⟨g4, 0, none⟩ = some (.int .u32 (x0 : Int)) := fun W hk => (HD5.out.keep0 hk).cell 0
        have HC4 := Lib.hid hc4
        have HC5 := Lib.hid hc5
        clear hc4 hc5
        by_cases hno : x2 = 0 ∨ 1073741824 < x2
        · have HN : Hid (ent4 x0 x1 x2 x3 = none) := by show _ = _; rw [HE.out, if_neg (by omega)]
          clear HE
          rcases hno with hz | hz
          · have hq0 : ((x2 : Int) == 0) = true := by rw [beq_iff_eq]; omega
            clear hz
            go_wp2_with (first
              | (refine wpList_load_agg rfl 185 (.tmp 4) rfl rfl (cs := [.int .u32 (x0 : Int), .int .u32 (x1 : Int)]) agg_pair HD5.out.cellsAt ?_)
              | (refine (HR1 _).out.mono ?_; clear HR1; rintro e w5 ⟨rfl, k5⟩)
              | (refine stop_at 24 rfl ?_))
            constructor
            refine wpList_agg_gd (by rfl) 185 (.tmp 5) rfl rfl (cs := [.int .u32 (x2 : Int), .int .u32 (x3 : Int)]) agg_pair (HD4.out.keep0 k5).cellsAt ?_
            go_wp2_with (first
              | (refine (HR2 _).out.mono ?_; clear HR2; rintro e w7 ⟨rfl, k7⟩; have c57 := HC4.out _ (k5.then k7))
              | (refine stop_store 46 (.tmp 2) (.tmp 38) rfl ?_))
            constructor
            refine wpList_store_all rfl 46 (.tmp 2) (.tmp 38) rfl rfl rfl (vs := entC (0, 0)) agg_entry.2 (HB4.out.keep0 (k5.then k7)) (entC_one _) rfl ?_
            intro w6 d6 k6
            go_wp2
            refine bodyPost_ret (results_cell_tmp rfl _ rfl rfl d6 agg_entry) rfl ?_
            rw [HN.out]
            exact ⟨rfl, ((K4.out.then k5).then k7).trans k6 (fun y hy hlt => by simp at hy; omega)⟩
          · have hq0 : ((x2 : Int) == 0) = false := by rw [beq_eq_false_iff_ne]; omega
            have hq1 : decide ((1073741824 : Int) < (x2 : Int)) = true := decide_eq_true (by omega)
            go_wp2_with (first
              | (refine wpList_load_agg rfl 185 (.tmp 4) rfl rfl (cs := [.int .u32 (x0 : Int), .int .u32 (x1 : Int)]) agg_pair HD5.out.cellsAt ?_)
              | (refine (HR1 _).out.mono ?_; clear HR1; rintro e w5 ⟨rfl, k5⟩)
              | (refine stop_at 24 rfl ?_))
            constructor
            refine wpList_agg_gd (by rfl) 185 (.tmp 5) rfl rfl (cs := [.int .u32 (x2 : Int), .int .u32 (x3 : Int)]) agg_pair (HD4.out.keep0 k5).cellsAt ?_
            go_wp2_with (first
              | (refine (HR2 _).out.mono ?_; clear HR2; rintro e w7 ⟨rfl, k7⟩; have c57 := HC4.out _ (k5.then k7))
              | (refine stop_store 46 (.tmp 2) (.tmp 38) rfl ?_))
            constructor
            refine wpList_store_all rfl 46 (.tmp 2) (.tmp 38) rfl rfl rfl (vs := entC (0, 0)) agg_entry.2 (HB4.out.keep0 (k5.then k7)) (entC_one _) rfl ?_
            intro w6 d6 k6
            go_wp2
            refine bodyPost_ret (results_cell_tmp rfl _ rfl rfl d6 agg_entry) rfl ?_
            rw [HN.out]
            exact ⟨rfl, ((K4.out.then k5).then k7).trans k6 (fun y hy hlt => by simp at hy; omega)⟩
        · have HN : Hid (ent4 x0 x1 x2 x3 = some (x2, x0)) := by show _ = _; rw [HE.out, if_pos ⟨rfl, rfl, by omega, by omega⟩]
          have hq0 : ((x2 : Int) == 0) = false := by rw [beq_eq_false_iff_ne]; omega
          have hq1 : decide ((1073741824 : Int) < (x2 : Int)) = false := decide_eq_false (by omega)
          clear HE
          go_wp2_with (first
            | (refine wpList_load_agg rfl 185 (.tmp 4) rfl rfl (cs := [.int .u32 (x0 : Int), .int .u32 (x1 : Int)]) agg_pair HD5.out.cellsAt ?_)
            | (refine (HR1 _).out.mono ?_; clear HR1; rintro e w5 ⟨rfl, k5⟩)
            | (refine stop_at 24 rfl ?_))
          constructor
          refine wpList_agg_gd (by rfl) 185 (.tmp 5) rfl rfl (cs := [.int .u32 (x2 : Int), .int .u32 (x3 : Int)]) agg_pair (HD4.out.keep0 k5).cellsAt ?_
          go_wp2_with (first
            | (refine (HR2 _).out.mono ?_; clear HR2; rintro e w7 ⟨rfl, k7⟩; have c57 := HC4.out _ (k5.then k7); have c47 := HC5.out _ (k5.then k7))
            | (refine stop_store 46 (.tmp 2) (.tmp 43) rfl ?_))
          constructor
          refine wpList_store_all rfl 46 (.tmp 2) (.tmp 43) rfl rfl rfl (vs := entC (x2, x0)) agg_entry.2 (HB4.out.keep0 (k5.then k7)) (entC_one _) rfl ?_
          intro w6 d6 k6
          go_wp2
          refine bodyPost_ret (results_cell_tmp rfl _ rfl rfl d6 agg_entry) rfl ?_
          rw [HN.out]
          exact ⟨rfl, ((K4.out.then k5).then k7).trans k6 (fun y hy hlt => by simp at hy; omega)⟩
end Go.Proofs.Yteanpgkonhdbpaa

namespace Go.Proofs.Yteanpgkonhdbpaa
open Go.RowKit

def blankL (l : List Nat) : Bool := l.all (fun x => x == 4294967295)
theorem blankL_slot (d : Dev) (s a : Nat) : blankL (slotL d s a) = blank4 (wdJ d) s a := by
  unfold blankL slotL blank4
  simp [Bool.and_assoc]
set_option maxRecDepth 100000 in
set_option maxHeartbeats 2000000 in
theorem blank_any47 (A : Option Addr) (c : Nat) (l : List Nat) (w : World) (hr : Reads w 1 A l.length (wordsV l)) (hl : l.length ≤ 1000000) :
    Calls Try.prog 98 #[.slice A l.length c] w fun e w' => e = .returned (.bool (blankL l)) ∧ w = w' := by
  have HC : Hid (∀ k, (hk : k < l.length) → ∃ b o, A = some ⟨b, o, none⟩ ∧ w.cell? ⟨b, o + k, none⟩ = some (.int .u32 (l[k] : Int))) := fun k hk => by
    obtain ⟨b, o, e, hb, hc⟩ := hr.addr (by omega)
    exact ⟨b, o, e, hc k _ (by simp [hk])⟩
  have HB : Hid (∀ k, k < l.length → l[k]? ≠ some 4294967295 → blankL l = false) := fun k hk h => by
    unfold blankL
    rw [List.all_eq_false]
    refine ⟨l[k], List.getElem_mem hk, fun e => h ?_⟩
    rw [List.getElem?_eq_getElem hk]
    exact congrArg some (by simpa using e)
  have HT : Hid ((∀ k, (hk : k < l.length) → l[k] = 4294967295) → blankL l = true) := fun h => by
    unfold blankL
    rw [List.all_eq_true]
    intro x hx
    obtain ⟨i, hi, rfl⟩ := List.mem_iff_getElem.1 hx
    rw [h i hi]; rfl
  clear hr
  go_enter Try.func98, Try.ntmps98
  go_wp2
  go_loopw [7] (fun vi wr => ∃ k : Nat, k ≤ l.length ∧ vi = .int .i64 (k : Int) ∧ Hid (∀ i, (hi : i < k) → (hl : i < l.length) → l[i] = 4294967295) ∧ w = wr) (fun vi _ => l.length - (intOf vi).toNat)
  case atStart => exact ⟨0, Nat.zero_le _, rfl, fun i hi => absurd hi (by omega), rfl⟩
  case round =>
    obtain ⟨k, hk, rfl, HP, rfl⟩ := hrel
    by_cases hlt : k < l.length
    · obtain ⟨b, o, rfl, hc⟩ := HC.out k hlt
      have p0 : (0 : Int) ≤ (k : Int) := by omega
      have p1 : (k : Int) < (l.length : Int) := by omega
      by_cases hx : l[k] = 4294967295
      · have hq : ((l[k] : Int) != 4294967295) = false := by rw [hx]; rfl
        have HP2 : Hid (∀ i, (hi : i < k + 1) → (hl : i < l.length) → l[i] = 4294967295) := fun i hi hl' => by
          rcases Nat.lt_succ_iff_lt_or_eq.1 hi with h | h
          · exact HP.out i h hl'
          · subst h; exact hx
        clear hx
        generalize l[k] = x at *
        go_wp2
        go_roundw
        case rel => exact ⟨k + 1, by omega, by go_num, HP2, trivial⟩
        case measure => simp [intOf]; omega
      · have hq : ((l[k] : Int) != 4294967295) = true := by rw [bne_iff_ne]; omega
        have HF : Hid (blankL l = false) := HB.out k hlt (by rw [List.getElem?_eq_getElem hlt]; simpa using hx)
        clear hx
        generalize l[k] = x at *
        go_wp2
        go_ret
        exact ⟨by rw [HF.out]; rfl, rfl⟩
    · have HF : Hid (blankL l = true) := HT.out (fun i hi => HP.out i (by omega) hi)
      have hkl : k = l.length := by omega
      subst hkl
      go_wp2
      go_ret
      exact ⟨by rw [HF.out]; rfl, rfl⟩
theorem slotL_len (d : Dev) (s a : Nat) : (slotL d s a).length = 4 := rfl

set_option maxRecDepth 100000 in
set_option maxHeartbeats 4000000 in
theorem skip_any (gj g b1 b2 : Nat) (d : Dev) (j : JS) (w : World) (hd : DevAt w g b1 b2 d) (ho : d.Ok) (hj : JrAt w gj g j) (hs : j.base + j.sector < d.ns) (ha : j.at_ ≤ d.nw / 4) :
    Calls Try.prog 63 #[.pointer (some ⟨gj, 0, none⟩)] w fun e w' => e = .returned (.tuple #[]) ∧ JrAt w' gj g { j with at_ := skipJ (wdJ d) (j.base + j.sector) (d.nw / 4) (d.nw / 4) j.at_ } ∧ Keep [gj] w w' := by
  have hnw := ho.nw2
  have hgg : gj ≠ g ∧ gj ≠ b1 ∧ gj ≠ b2 := ⟨hj.blk.ne_ hd.dev (by decide), hj.blk.ne_ hd.bits (by decide), hj.blk.ne_ hd.worn (by decide)⟩
  have HD : Hid (∀ W, Keep [gj] w W → DevAt W g b1 b2 d) := fun W hk => hd.keep hk (by simp; exact Ne.symm hgg.1) (by simp; exact Ne.symm hgg.2.1) (by simp; exact Ne.symm hgg.2.2)
  have HO := Lib.hid ho
  have HS := Lib.hid hs
  have hK : d.nw / 4 ≤ 256 := by omega
  generalize hKK : d.nw / 4 = K at *
  clear hd ho hnw
  go_enter Try.func63, Try.ntmps63
  go_wp2
  go_loopw [2] (fun v2 wr => ∃ a : Nat, j.at_ ≤ a ∧ a ≤ K ∧ Hid (∀ b, j.at_ ≤ b → b < a → blank4 (wdJ d) (j.base + j.sector) b = false) ∧ JrAt wr gj g { j with at_ := a } ∧ Keep [gj] w wr) (fun _ wr => K - (intOf ((wr.cell? ⟨gj, 4, none⟩).getD undef)).toNat)
  case atStart => exact ⟨j.at_, Nat.le_refl _, ha, fun b h1 h2 => absurd h1 (by omega), hj, Keep.refl _ _⟩
  case round =>
    obtain ⟨a, hja, hak, HP, hjr, hkw⟩ := hrel
    have HSL : Hid (∀ W, Keep [] wr W → Calls Try.prog 64 #[.pointer (some ⟨gj, 0, none⟩)] W fun e w' => e = .returned (.int .i64 (K : Int)) ∧ Keep [] wr w') := fun W hk => (slots_any gj g b1 b2 d _ W ((HD.out wr hkw).keep0 hk) HO.out (hjr.keep0 hk)).mono fun e w' he => ⟨by rw [he.1, hKK], by rw [← he.2]; exact hk⟩
    have hcw : ∀ W, Keep [] wr W → W.cell? ⟨gj, 3, none⟩ = some (.int .i64 (j.sector : Int)) ∧ W.cell? ⟨gj, 4, none⟩ = some (.int .i64 (a : Int)) := fun W hk => ⟨(hjr.keep0 hk).cells.2.2.2.1, (hjr.keep0 hk).cells.2.2.2.2.1⟩
    have HJ := Lib.hid hjr
    have HKW := Lib.hid hkw
    clear hjr hkw
    by_cases hlt : a < K
    · have hq : decide ((a : Int) < (K : Int)) = true := decide_eq_true (by omega)
      go_upto_region 0 with fail
      refine wp_region_flow_tail 17 (Keep [] wr) rfl (by kernel_rfl) (Keep.refl _ _).drew ?_
      repeat (refine fl_val (v := ?_) (by rfl) ?_ ?_; rotate_left; (intro w' hS; obtain ⟨f1,f2⟩ := hcw w' hS; go_simp; with_reducible rfl); simp only [Act.put, List.setIfInBounds_toArray, List.set_cons_zero, List.set_cons_succ])
      refine fl_call (f := 64) (v := .int .i64 (K : Int)) (by rfl) rfl (by simp only [List.map_toArray, List.map_cons, List.map_nil]; rfl) Try.func64 (by kernel_rfl) (by kernel_rfl) (fun w' hS => HSL.out w' hS) ?_; simp only [Act.put, List.setIfInBounds_toArray, List.set_cons_zero, List.set_cons_succ]
      repeat (refine fl_val (v := ?_) (by rfl) ?_ ?_; rotate_left; (intro w' hS; obtain ⟨f1,f2⟩ := hcw w' hS; go_simp; with_reducible rfl); simp only [Act.put, List.setIfInBounds_toArray, List.set_cons_zero, List.set_cons_succ])
      refine fl_nil ?_
      intro w4 hS4
      have HSO := Lib.hid (slot_any gj g b1 b2 d _ j.sector a w4 ((HD.out wr HKW.out).keep0 hS4) HO.out (HJ.out.keep0 hS4) HS.out (by omega))
      go_wp2_with fail
      refine HSO.out.mono ?_
      rintro e w5 ⟨⟨b5, o5, c5, rfl, hrd⟩, k5⟩
      have HBK := Lib.hid (blank_any47 (some ⟨b5, o5, none⟩) c5 (slotL d (j.base + j.sector) a) w5 hrd (by rw [slotL_len]; omega))
      rw [slotL_len, blankL_slot] at HBK
      have kr5 := Lib.hid (hS4.then k5)
      have hc5 := hcw w5 kr5.out
      obtain ⟨hc3, hc4⟩ := hc5
      have hf4 := (HJ.out.keep0 kr5.out).blk.frozen 4
      have hw5 : IntKind.i64.wrap ((a : Int) + 1) = (a : Int) + 1 := IntWalk.i64_in _ (by omega)
      have HKW5 : Hid (Keep [gj] w w5) := HKW.out.then kr5.out
      have HJ5 := Lib.hid (HJ.out.keep0 kr5.out)
      have hcm : (intOf ((wr.cell? ⟨gj, 4, none⟩).getD undef)).toNat = a := by rw [(hcw wr (Keep.refl _ _)).2]; simp [intOf]
      have HCM := Lib.hid hcm
      clear hrd k5 hS4 HSO hcw HSL hcm
      obtain ⟨bb, hbb⟩ : ∃ bb, blank4 (wdJ d) (j.base + j.sector) a = bb := ⟨_, rfl⟩
      have HBB := Lib.hid hbb
      rw [hbb] at HBK
      clear hbb
      cases bb
      · go_wp2_with (refine HBK.out.mono ?_; clear HBK; rintro e w6 ⟨rfl, rfl⟩)
        go_roundw
        case rel =>
          refine ⟨a + 1, by omega, by omega, fun b h1 h2 => ?_, ⟨?_⟩, HKW5.out.trans (keep_set _ _ _ _) (fun y hy _ => hy)⟩
          · rcases Nat.lt_succ_iff_lt_or_eq.1 h2 with h | h
            · exact HP.out b h1 h
            · rw [h]; exact HBB.out
          · exact HJ5.out.blk.set_ 4 _
        case measure =>
          rw [HCM.out]
          have := (HJ5.out.blk.set_ 4 (.int .i64 ((a : Int) + 1))).cell 4
          simp at this
          rw [this]
          simp [intOf]
          omega
      · go_wp2_with (refine HBK.out.mono ?_; clear HBK; rintro e w6 ⟨rfl, rfl⟩)
        go_end0
        refine ⟨rfl, ?_, HKW5.out⟩
        rw [skipJ_to (u := a) hak (fun _ => HBB.out) K j.at_ hja (by omega) HP.out]
        exact HJ5.out
    · have hq : decide ((a : Int) < (K : Int)) = false := decide_eq_false (by omega)
      go_upto_region 0 with fail
      refine wp_region_flow (Keep [] wr) rfl (by kernel_rfl) (Keep.refl _ _).drew ?_
      repeat (refine fl_val (v := ?_) (by rfl) ?_ ?_; rotate_left; (intro w' hS; obtain ⟨f1,f2⟩ := hcw w' hS; go_simp; with_reducible rfl); simp only [Act.put, List.setIfInBounds_toArray, List.set_cons_zero, List.set_cons_succ])
      refine fl_call (f := 64) (v := .int .i64 (K : Int)) (by rfl) rfl (by simp only [List.map_toArray, List.map_cons, List.map_nil]; rfl) Try.func64 (by kernel_rfl) (by kernel_rfl) (fun w' hS => HSL.out w' hS) ?_; simp only [Act.put, List.setIfInBounds_toArray, List.set_cons_zero, List.set_cons_succ]
      repeat (first | (refine fl_off (by rfl) ?_; simp only [Act.put, List.setIfInBounds_toArray, List.set_cons_zero, List.set_cons_succ]) | (refine fl_val (v := ?_) (by rfl) ?_ ?_; rotate_left; (intro w' hS; obtain ⟨f1,f2⟩ := hcw w' hS; go_simp; with_reducible rfl); simp only [Act.put, List.setIfInBounds_toArray, List.set_cons_zero, List.set_cons_succ]))
      refine fl_nil ?_
      intro w4 hS4
      have HKW5 : Hid (Keep [gj] w w4) := HKW.out.then hS4
      have HJ5 := Lib.hid (HJ.out.keep0 hS4)
      have hka : a = K := by omega
      clear hcw HSL hS4
      go_wp2
      go_end0
      refine ⟨rfl, ?_, HKW5.out⟩
      rw [skipJ_to (u := a) hak (fun h => absurd h (by omega)) K j.at_ hja (by omega) HP.out]
      exact HJ5.out
end Go.Proofs.Yteanpgkonhdbpaa
