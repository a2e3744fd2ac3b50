/- A journal's places, read; walked. Condition: the device is one that may be. -/
import Derived.Test.YteanpgkonhdbpaaFlashSect
import Derived.Test.YteanpgkonhdbpaaJrStep
import Derived.Test.YteanpgkonhdbpaaFlow
namespace Go.Proofs.Yteanpgkonhdbpaa
open Go.RowKit

theorem own_some {W : World} {base : Nat} {e : TypeId} {size n : Nat} {v : Value} {xs : List Value} (h : W.ownsRow base e size v n xs) (h0 : 0 < n) : ∃ g c, v = .slice (some ⟨g, 0, none⟩) n c ∧ base ≤ g ∧ g < W.heap.size ∧ ∃ cs, W.heap[g]? = some (.cells cs e (0, 0)) := by
  rcases h.2 with ⟨_, h2⟩ | ⟨g', cap, cur, hv, hg, hh, _⟩
  · omega
  · exact ⟨g', cap, hv, hg, (Array.getElem?_eq_some_iff.1 hh).1, cur, hh⟩
/-- A journal in memory. -/
structure JrAt (W : World) (gj g : Nat) (j : JS) : Prop where
  blk : Blk W gj 114 #[.pointer (some ⟨g, 0, none⟩), .int .i64 j.base, .int .i64 j.many, .int .i64 j.sector, .int .i64 j.at_, .int .u32 (j.next : Int)]
theorem JrAt.keep {W W' : World} {gj g : Nat} {j : JS} {F : List Nat} (h : JrAt W gj g j) (k : Keep F W W') (hF : gj ∉ F) : JrAt W' gj g j := ⟨h.blk.keep k hF⟩
theorem JrAt.keep0 {W W' : World} {gj g : Nat} {j : JS} (h : JrAt W gj g j) (k : Keep [] W W') : JrAt W' gj g j := h.keep k (by simp)
theorem DevAt.keep0 {w w' : World} {g b1 b2 : Nat} {d : Dev} (h : DevAt w g b1 b2 d) (k : Keep [] w w') : DevAt w' g b1 b2 d := h.keep k (by simp) (by simp) (by simp)
theorem JrAt.cells {W : World} {gj g : Nat} {j : JS} (h : JrAt W gj g j) : W.cell? ⟨gj, 0, none⟩ = some (.pointer (some ⟨g, 0, none⟩)) ∧ W.cell? ⟨gj, 1, none⟩ = some (.int .i64 j.base) ∧ W.cell? ⟨gj, 2, none⟩ = some (.int .i64 j.many) ∧
    W.cell? ⟨gj, 3, none⟩ = some (.int .i64 j.sector) ∧ W.cell? ⟨gj, 4, none⟩ = some (.int .i64 j.at_) ∧ W.cell? ⟨gj, 5, none⟩ = some (.int .u32 (j.next : Int)) :=
  ⟨h.blk.cell 0, h.blk.cell 1, h.blk.cell 2, h.blk.cell 3, h.blk.cell 4, h.blk.cell 5⟩

theorem xor_ones {a : Nat} (h : a < 4294967296) : 4294967295 ^^^ a = 4294967295 - a := by
  apply Nat.eq_of_testBit_eq
  intro i
  rw [Nat.testBit_xor, cpl_bit h, ones_bit]
  rcases Nat.lt_or_ge i 32 with g | g
  · simp [g]
  · rw [bit_hi h g]; simp [Nat.not_lt.2 g]
theorem u32_not {a : Nat} (h : a < 4294967296) : bits .xor .u32 IntKind.u32.max (a : Int) = ((4294967295 - a : Nat) : Int) := by
  have := u32_xor_nat 4294967295 a (by decide) h
  rw [xor_ones h] at this
  rw [← this]
  rfl
theorem fourJ_len (w n : Nat) : (fourJ w n).length = 4 := rfl
/-- A place's four words. -/
def slotL (d : Dev) (s a : Nat) : List Nat := [wdJ d s (a * 4), wdJ d s (a * 4 + 1), wdJ d s (a * 4 + 2), wdJ d s (a * 4 + 3)]

set_option maxRecDepth 100000 in
set_option maxHeartbeats 1000000 in
theorem right_any05 (a b : Nat) (w : World) (ha : a < 4294967296) :
    Calls Try.prog 116 #[.agg #[.int .u32 (a : Int), .int .u32 (b : Int)]] w fun e w' => e = .returned (.bool (twinJ a b)) ∧ Keep [] w w' := by
  have HT : Hid (twinJ a b = ((b : Int) == bits .xor .u32 IntKind.u32.max (a : Int))) := by
    show _ = _
    rw [u32_not ha]
    unfold twinJ
    rw [Bool.eq_iff_iff, beq_iff_eq, beq_iff_eq]
    omega
  have K1 := (Keep.refl [] w).alloc (.cells #[.int .u32 (a : Int), .int .u32 (b : Int)] 185)
  go_enter Try.func116, Try.ntmps116
  go_wp2
  go_ret
  exact ⟨by rw [HT.out]; rfl, K1⟩

set_option maxRecDepth 100000 in
set_option maxHeartbeats 1000000 in
theorem slots_any (gj g b1 b2 : Nat) (d : Dev) (j : JS) (w : World) (hd : DevAt w g b1 b2 d) (ho : d.Ok) (hj : JrAt w gj g j) :
    Calls Try.prog 64 #[.pointer (some ⟨gj, 0, none⟩)] w fun e w' => e = .returned (.int .i64 ((d.nw / 4 : Nat) : Int)) ∧ w = w' := by
  obtain ⟨c0, _⟩ := hj.cells
  have HW := Lib.hid (fwords_any g b1 b2 d w hd)
  have hnw := ho.nw2
  have hq : ((d.nw / 4 : Nat) : Int) = (d.nw : Int) / 4 := by omega
  rw [hq]
  clear hd hj ho hq
  go_enter Try.func64, Try.ntmps64
  go_wp2_with fail
  refine HW.out.mono ?_
  rintro e w1 ⟨rfl, rfl⟩
  go_wp2
  go_ret
  exact ⟨rfl, rfl⟩
set_option maxRecDepth 100000 in
set_option maxHeartbeats 1000000 in
theorem slot_any (gj g b1 b2 : Nat) (d : Dev) (j : JS) (s a : Nat) (w : World) (hd : DevAt w g b1 b2 d) (ho : d.Ok) (hj : JrAt w gj g j) (hs : j.base + s < d.ns) (ha : a < d.nw / 4) :
    Calls Try.prog 97 #[.pointer (some ⟨gj, 0, none⟩), .int .i64 (s : Int), .int .i64 (a : Int)] w fun e w' =>
      (∃ b o c, e = .returned (.slice (some ⟨b, o, none⟩) 4 c) ∧ Reads w' 1 (some ⟨b, o, none⟩) 4 (wordsV (slotL d (j.base + s) a))) ∧ Keep [] w w' := by
  have hcs := hj.cells
  obtain ⟨c0, c1, _⟩ := hcs
  have hnw := ho.nw2
  have hns := ho.ns2
  have HSC : Hid (∀ W, Keep [] w W → Calls Try.prog 39 #[.pointer (some ⟨g, 0, none⟩), .int .i64 ((j.base : Int) + (s : Int))] W (RetWords W (sectL d (j.base + s)))) := fun W hk => by
    have := fsector_any g b1 b2 d ((j.base : Int) + (s : Int)) W (hd.keep0 hk) ho
    rw [show sectS d ((j.base : Int) + (s : Int)) = sectL d (j.base + s) by unfold sectS; rw [if_pos (by omega), show ((j.base : Int) + (s : Int)).toNat = j.base + s by omega]] at this
    exact this
  have HSL : Hid ((sectL d (j.base + s)).length = d.nw) := sectL_len d ho _ hs
  have HSG : Hid (∀ i, i < 4 → (wordsV (sectL d (j.base + s)))[a * 4 + i]? = (wordsV (slotL d (j.base + s) a))[i]?) := fun i hi => by
    have h1 : a * 4 + i < d.nw := by omega
    have h2 := sectL_get d (j.base + s) (a * 4 + i) h1
    have h3 : (sectL d (j.base + s))[a * 4 + i]? = some (wdJ d (j.base + s) (a * 4 + i)) := by
      rw [h2]
      unfold wdJ
      rw [List.getD_eq_getElem?_getD, List.getElem?_eq_getElem (in_bits ho hs h1)]
      rfl
    rw [List.getElem?_map, h3]
    have hi' : i = 0 ∨ i = 1 ∨ i = 2 ∨ i = 3 := by omega
    rcases hi' with rfl | rfl | rfl | rfl <;> rfl
  have hw1 : IntKind.i64.wrap ((j.base : Int) + (s : Int)) = ((j.base + s : Nat) : Int) := by rw [show (j.base : Int) + (s : Int) = ((j.base + s : Nat) : Int) by omega]; exact IntWalk.i64_in _ (by omega)
  have hw2 : IntKind.i64.wrap ((a : Int) * 4) = ((a * 4 : Nat) : Int) := by rw [show (a : Int) * 4 = ((a * 4 : Nat) : Int) by omega]; exact IntWalk.i64_in _ (by omega)
  have hw3 : IntKind.i64.wrap ((a : Int) + 1) = (a : Int) + 1 := IntWalk.i64_in _ (by omega)
  have hw4 : IntKind.i64.wrap (((a : Int) + 1) * 4) = ((a * 4 + 4 : Nat) : Int) := by rw [show ((a : Int) + 1) * 4 = ((a * 4 + 4 : Nat) : Int) by omega]; exact IntWalk.i64_in _ (by omega)
  have hal : a * 4 + 4 ≤ d.nw := by omega
  clear hd ho hj
  go_enter Try.func97, Try.ntmps97
  go_wp2
  go_still_tail 10, (by kernel_rfl)
  change wpList _ _ _ _ _ w.drew
  go_wp2_with fail
  refine (HSC.out _ (Keep.refl [] w).drew).mono ?_
  rintro e w1 ⟨A, c, rfl, hown, k1⟩
  have K1 : Keep [] w w1 := (Keep.refl [] w).drew.then k1
  rw [HSL.out] at hown ⊢
  obtain ⟨gs, cs, e1, _, hgs, _⟩ := own_some hown (by omega)
  cases e1
  have hcapf : d.nw ≤ c := by
    rcases hown.2 with ⟨h1, _⟩ | ⟨_, _, _, h1, _, _, h2, _⟩
    · cases h1
    · cases h1; exact h2
  have HRD : Hid (Reads w1 1 (some ⟨gs, a * 4, none⟩) 4 (wordsV (slotL d (j.base + s) a))) := by
    refine ⟨rfl, fun _ => ⟨gs, a * 4, rfl, hgs, fun i u hu => ?_⟩⟩
    have hi : i < 4 := by
      have := (List.getElem?_eq_some_iff.1 hu).1
      simpa [slotL] using this
    obtain ⟨b', o', e2, _, hc⟩ := (Reads.of_own hown).addr (by omega)
    cases e2
    have := hc (a * 4 + i) u (by rw [HSG.out i hi]; exact hu)
    rwa [Nat.zero_add] at this
  have HK1 := Lib.hid K1
  clear hown k1 K1 HSC
  have q1 : (0 : Int) ≤ (a : Int) * 4 + 4 := by omega
  have q2 : (a : Int) * 4 + 4 ≤ (c : Int) := by omega
  have q3 : (0 : Int) ≤ (a : Int) * 4 := by omega
  have q4 : (a : Int) * 4 ≤ (a : Int) * 4 + 4 := by omega
  have q5 : (c = a * 4) = False := eq_false (by omega)
  have q6 : (a * 4 = c) = False := eq_false (by omega)
  have q7 : a * 4 < c := by omega
  have h44 : a * 4 + 4 - a * 4 = 4 := by omega
  go_wp2
  go_ret
  refine ⟨⟨gs, a * 4, c - a * 4, ?_, HRD.out⟩, HK1.out⟩
  show Ending.returned (.slice (some ⟨gs, a * 4, none⟩) (a * 4 + 4 - a * 4) (c - a * 4)) = _
  rw [h44]
end Go.Proofs.Yteanpgkonhdbpaa
