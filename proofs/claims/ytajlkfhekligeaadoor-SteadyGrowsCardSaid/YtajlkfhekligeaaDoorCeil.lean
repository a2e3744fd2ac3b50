/- mask's Below and Above. No condition. Ceilings: the empty table, and the resources whose ceiling is a task or one ahead of it. No condition. -/
import Derived.Test.YtajlkfhekligeaaDoorMask
import Derived.Test.YtajlkfhekligeaaDoorImgA
namespace Go.Proofs.YtajlkfhekligeaaDoor
open Go.RowKit

/-- Those of a set that are less than a number, or greater. -/
def belowN (s : Nat) (n : Int) : Nat := if n ≤ 0 then 0 else if 31 < n then s else s &&& (2 ^ n.toNat - 1)
def aboveN (s : Nat) (n : Int) : Nat := if n < 0 then s else s &&& (4294967295 - (belowN s n ||| bitN n))
theorem belowN_lt {s : Nat} (n : Int) (h : s < 4294967296) : belowN s n < 4294967296 := by
  unfold belowN
  split
  · omega
  · split
    · exact h
    · exact Nat.lt_of_le_of_lt Nat.and_le_left h
theorem belowN_bit (s : Nat) (n : Int) (i : Nat) (hi : i < 32) : (belowN s n).testBit i = (s.testBit i && decide ((i : Int) < n)) := by
  unfold belowN
  by_cases h1 : n ≤ 0
  · rw [if_pos h1]
    have : decide ((i : Int) < n) = false := decide_eq_false (by omega)
    rw [this, Bool.and_false, Nat.zero_testBit]
  · rw [if_neg h1]
    by_cases h2 : 31 < n
    · rw [if_pos h2]
      have : decide ((i : Int) < n) = true := decide_eq_true (by omega)
      rw [this, Bool.and_true]
    · rw [if_neg h2, Nat.testBit_and, Nat.testBit_two_pow_sub_one]
      congr 1
      rw [Bool.eq_iff_iff]; simp <;> omega

set_option maxRecDepth 100000 in
set_option maxHeartbeats 1000000 in
theorem below_any (s : Nat) (n : Int) (w : World) (hs : s < 4294967296) : Calls Tryd.prog 61 #[.int .u32 (s : Int), .int .i64 n] w fun e w' => e = .returned (.int .u32 (belowN s n : Int)) ∧ w = w' := by
  have hc : n ≤ 0 ∨ 31 < n ∨ (1 ≤ n ∧ n ≤ 31) := by omega
  rcases hc with h | h | ⟨h1, h2⟩
  · have HB : Hid (belowN s n = 0) := by show _ = _; unfold belowN; rw [if_pos h]
    go_enter Tryd.func61, Tryd.ntmps61
    go_wp2
    go_ret
    exact ⟨by rw [HB.out]; rfl, rfl⟩
  · have HB : Hid (belowN s n = s) := by show _ = _; unfold belowN; rw [if_neg (by omega), if_pos h]
    go_enter Tryd.func61, Tryd.ntmps61
    go_wp2
    go_ret
    exact ⟨by rw [HB.out]; rfl, rfl⟩
  · obtain ⟨k, rfl⟩ : ∃ k : Nat, n = (k : Int) := ⟨n.toNat, by omega⟩
    have HB : Hid (belowN s k = s &&& (2 ^ k - 1)) := by show _ = _; unfold belowN; rw [if_neg (by omega), if_neg (by omega), Int.toNat_natCast]
    have hp31 : 2 ^ k ≤ 2 ^ 31 := Nat.pow_le_pow_right (by decide) (by omega)
    have hp0 := Nat.two_pow_pos k
    have HPM : Hid (((2 : Int) ^ k - 1) % 4294967296 = ((2 ^ k - 1 : Nat) : Int)) := by
      show _ = _
      have e : ((2 : Int) ^ k) = ((2 ^ k : Nat) : Int) := by norm_cast
      rw [e, Int.emod_eq_of_lt (by omega) (by omega)]
      omega
    have HA : Hid (bits .and .u32 (s : Int) ((2 ^ k - 1 : Nat) : Int) = ((s &&& (2 ^ k - 1) : Nat) : Int)) := u32_and_nat s (2 ^ k - 1) hs (by omega)
    clear hp31 hp0
    go_enter Tryd.func61, Tryd.ntmps61
    go_wp2
    go_ret
    refine ⟨?_, rfl⟩
    rw [HB.out]
    show Ending.returned (.int .u32 (bits BinOp.and IntKind.u32 (s : Int) ((2 ^ k - 1) % 4294967296))) = _
    rw [HPM.out, HA.out]
theorem flip_bit (b i : Nat) (hb : b < 4294967296) (hi : i < 32) : (4294967295 - b).testBit i = !b.testBit i := by
  have e : (4294967295 - b) = 2 ^ 32 - (b + 1) := by omega
  rw [e, Nat.testBit_two_pow_sub_succ hb]
  simp [hi]
theorem bitN_bit (n : Int) (i : Nat) (hi : i < 32) : (bitN n).testBit i = decide (n = (i : Int)) := by
  unfold bitN
  split
  · rename_i h
    rw [Nat.testBit_two_pow]
    rw [Bool.eq_iff_iff]; simp; omega
  · rw [Nat.zero_testBit]
    rw [Bool.eq_iff_iff]; simp; omega
theorem aboveN_lt {s : Nat} (n : Int) (h : s < 4294967296) : aboveN s n < 4294967296 := by
  unfold aboveN
  split
  · exact h
  · exact Nat.lt_of_le_of_lt Nat.and_le_left h
theorem aboveN_bit (s : Nat) (n : Int) (i : Nat) (hs : s < 4294967296) (hi : i < 32) : (aboveN s n).testBit i = (s.testBit i && decide (n < (i : Int))) := by
  unfold aboveN
  split
  · have : decide (n < (i : Int)) = true := by simp; omega
    rw [this, Bool.and_true]
  · rw [Nat.testBit_and, flip_bit _ _ (Nat.or_lt_two_pow (n := 32) (belowN_lt n hs) (bitN_lt n)) hi, Nat.testBit_or, belowN_bit _ _ _ hi, bitN_bit _ _ hi]
    cases s.testBit i
    · rfl
    · rw [Bool.eq_iff_iff]; simp; omega

set_option maxRecDepth 100000 in
set_option maxHeartbeats 1000000 in
theorem above_any (s : Nat) (n : Int) (w : World) (hs : s < 4294967296) : Calls Tryd.prog 72 #[.int .u32 (s : Int), .int .i64 n] w fun e w' => e = .returned (.int .u32 (aboveN s n : Int)) ∧ w = w' := by
  have hbl := belowN_lt n hs
  have hb2 : belowN s n ||| bitN n < 4294967296 := Nat.or_lt_two_pow (n := 32) hbl (bitN_lt n)
  have HA : Hid (bits .andNot .u32 (s : Int) ((belowN s n ||| bitN n : Nat) : Int) = ((s &&& (4294967295 - (belowN s n ||| bitN n)) : Nat) : Int)) := u32_andNot_nat s _ hs hb2
  rcases Int.lt_or_le n 0 with h | h
  · have HB : Hid (aboveN s n = s) := by show _ = _; unfold aboveN; rw [if_pos h]
    go_enter Tryd.func72, Tryd.ntmps72
    go_wp2
    go_ret
    exact ⟨by rw [HB.out]; rfl, rfl⟩
  · have HB : Hid (aboveN s n = s &&& (4294967295 - (belowN s n ||| bitN n))) := by show _ = _; unfold aboveN; rw [if_neg (by omega)]
    go_enter Tryd.func72, Tryd.ntmps72
    go_wp2_with (first
      | (refine (below_any s n _ hs).mono ?_; rintro e w' ⟨rfl, rfl⟩)
      | (refine (with_any _ n _ hbl).mono ?_; rintro e w' ⟨rfl, rfl⟩))
    go_ret
    refine ⟨?_, rfl⟩
    rw [HB.out, ← HA.out]
    rfl
end Go.Proofs.YtajlkfhekligeaaDoor

namespace Go.Proofs.YtajlkfhekligeaaDoor
open Go.RowKit

theorem agg_tab : AggOf Tryd.prog 75 8 := ⟨by kernel_rfl, by kernel_rfl⟩
theorem iv_len (l : List Int) : (iv l).length = l.length := List.length_map _
def emptyTab : List Int := List.replicate 8 16
def fillTab (k : Nat) : List Int := List.replicate k 16 ++ List.replicate (8 - k) 0
theorem fillTab_step (k : Nat) (h : k < 8) : (iv (fillTab k)).toArray.setIfInBounds k (.int .i64 16) = (iv (fillTab (k + 1))).toArray := by
  have hc : k = 0 ∨ k = 1 ∨ k = 2 ∨ k = 3 ∨ k = 4 ∨ k = 5 ∨ k = 6 ∨ k = 7 := by omega
  rcases hc with rfl | rfl | rfl | rfl | rfl | rfl | rfl | rfl <;> rfl
set_option maxRecDepth 100000 in
set_option maxHeartbeats 1000000 in
theorem cempty_any (w : World) : Calls Tryd.prog 58 #[] w fun e w' => e = .returned (.agg (iv emptyTab).toArray) ∧ Keep [] w w' := by
  go_enter Tryd.func58, Tryd.ntmps58
  obtain ⟨W0, hW0⟩ : ∃ W0, (w.alloc (.cells (List.replicate 8 (.int .i64 0)).toArray 75)).alloc (.cells (List.replicate 8 (.int .i64 0)).toArray 75) = W0 := ⟨_, rfl⟩
  have b0 : Blk W0 w.heap.size 75 (List.replicate 8 (.int .i64 0)).toArray := by rw [← hW0]; exact (Blk.new _ _ _).alloc _
  have b1 : Blk W0 (w.heap.size + 1) 75 (iv (fillTab 0)).toArray := by
    rw [← hW0]; have := Blk.new (w.alloc (.cells (List.replicate 8 (.int .i64 0)).toArray 75)) 75 (List.replicate 8 (.int .i64 0)).toArray; rw [World.size_alloc] at this; exact this
  have K0 : Keep [] w W0 := by rw [← hW0]; exact ((Keep.refl _ w).alloc _).alloc _
  have hsz : W0.heap.size = w.heap.size + 2 := by rw [← hW0]; simp
  have HW := Lib.hid hW0
  clear hW0
  go_wp2_with (refine stop_store 75 (.tmp 1) (.tmp 3) rfl ?_)
  constructor
  change wpList _ _ _ _ _ ((w.alloc (.cells (List.replicate 8 (.int .i64 0)).toArray 75)).alloc (.cells (List.replicate 8 (.int .i64 0)).toArray 75))
  rw [HW.out]
  refine wpList_store_all rfl 75 (.tmp 1) (.tmp 3) rfl (vs := iv (fillTab 0)) rfl rfl (by kernel_rfl) b1 (iv_one _) rfl ?_
  intro w1 d1 k1
  have hK1 := K0.trans k1 (fun y hy hlt => by simp at hy; omega)
  have b01 := b0.keep k1 (by simp)
  clear k1 K0 b0 b1
  go_wp2
  go_loopw [4] (fun i wr => ∃ k : Nat, k ≤ 8 ∧ i = .int .i64 k ∧ Blk wr (w.heap.size + 1) 75 (iv (fillTab k)).toArray ∧ Blk wr w.heap.size 75 (List.replicate 8 (.int .i64 0)).toArray ∧ Keep [] w wr) (fun i _ => 8 - (intOf i).toNat)
  case atStart => exact ⟨0, Nat.zero_le _, rfl, d1, b01, hK1⟩
  case round =>
    obtain ⟨k, hk, rfl, hb, hb0, hK⟩ := hrel
    by_cases hlt : k < 8
    · have HS := Lib.hid (fillTab_step k hlt)
      have hl : k < (iv (fillTab k)).toArray.size := by simp [fillTab]; omega
      have hc := hb.cell k
      rw [Array.getElem?_eq_getElem hl] at hc
      have hf := hb.frozen k
      have n1 := hb.set_ k (.int .i64 16)
      rw [HS.out] at n1
      have n2 := hb0.keep (keep_set wr (w.heap.size + 1) k (.int .i64 16)) (by simp)
      have n3 := hK.trans (keep_set wr (w.heap.size + 1) k (.int .i64 16)) (fun y hy hlt => by simp at hy; omega)
      have HB := Lib.hid (And.intro n1 (And.intro n2 n3))
      clear n1 n2 n3 hb hb0 hK HS d1 b01 hK1
      generalize (iv (fillTab k)).toArray[k] = z at *
      have q0 : (0 : Int) ≤ (k : Int) := by omega
      have q1 : (k : Int) < 8 := by omega
      go_wp2
      go_roundw
      case rel => exact ⟨k + 1, by omega, by go_num, HB.out.1, HB.out.2.1, HB.out.2.2⟩
      case measure => simp [intOf] <;> omega
    · obtain rfl : k = 8 := by omega
      have hcs := hb.cellsAt
      have HK := Lib.hid hK
      clear d1 b01 hK1 hK
      go_wp2_with (first
        | (refine wpList_load_agg rfl 75 (.tmp 1) rfl rfl (cs := iv (fillTab 8)) agg_tab hcs ?_)
        | (refine stop_store 75 (.tmp 0) (.tmp 10) rfl ?_))
      constructor
      refine wpList_store_all rfl 75 (.tmp 0) (.tmp 10) rfl rfl rfl (by kernel_rfl) hb0 (iv_one _) rfl ?_
      intro w2 d2 k2
      have HK2 : Hid (Keep [] w w2) := HK.out.trans k2 (fun y hy hlt => by simp at hy; omega)
      clear k2
      go_wp2
      refine bodyPost_ret (results_blk rfl _ rfl d2 agg_tab) rfl ?_
      exact ⟨rfl, HK2.out⟩

/-- The resources among the first k whose ceiling is a task, or one ahead of it. -/
def overK (l : List Int) (task : Int) : Nat → Nat
  | 0 => 0
  | k + 1 => if l.getD k 0 ≤ task ∧ l.getD k 0 < 16 then overK l task k ||| 2 ^ k else overK l task k
theorem overK_lt (l : List Int) (task : Int) : ∀ k, k ≤ 8 → overK l task k < 256
  | 0, _ => by simp [overK]
  | k + 1, h => by
    have := overK_lt l task k (by omega)
    rw [overK]
    split
    · have h2 : 2 ^ k < 2 ^ 8 := Nat.pow_lt_pow_right (by decide) (by omega)
      exact Nat.or_lt_two_pow (n := 8) this h2
    · exact this
theorem overK_bit (l : List Int) (task : Int) (i : Nat) : ∀ k, (overK l task k).testBit i = (decide (i < k) && decide (l.getD i 0 ≤ task ∧ l.getD i 0 < 16))
  | 0 => by simp [overK]
  | k + 1 => by
    rw [overK]
    by_cases e : i = k
    · subst e
      have hb := overK_bit l task i i
      generalize overK l task i = o at *
      generalize l.getD i 0 = z at *
      have h0 : decide (i < i) = false := decide_eq_false (by omega)
      have h1 : decide (i < i + 1) = true := decide_eq_true (by omega)
      rw [h0, Bool.false_and] at hb
      rw [h1, Bool.true_and]
      split
      · rename_i h
        rw [Nat.testBit_or, Nat.testBit_two_pow, decide_eq_true h, decide_eq_true rfl, Bool.or_true]
      · rename_i h
        rw [hb, decide_eq_false h]
    · have h1 : decide (i < k + 1) = decide (i < k) := by rw [Bool.eq_iff_iff]; simp; omega
      rw [h1]
      split
      · rw [Nat.testBit_or, Nat.testBit_two_pow, overK_bit l task i k]
        have : decide (k = i) = false := by simp; omega
        rw [this, Bool.or_false]
      · exact overK_bit l task i k

set_option maxRecDepth 100000 in
set_option maxHeartbeats 1000000 in
theorem over_any (l : List Int) (task : Int) (w : World) (h8 : l.length = 8) : Calls Tryd.prog 71 #[.agg (iv l).toArray, .int .i64 task] w fun e w' => e = .returned (.int .u32 (overK l task 8 : Int)) ∧ Keep [] w w' := by
  have hb := Blk.new w 75 (iv l).toArray
  have K0 := (Keep.refl [] w).alloc (.cells (iv l).toArray 75)
  have hcs := hb.cellsAt
  have hA : Hid (AggOf Tryd.prog 75 (iv l).length) := by show AggOf _ _ _; rw [iv_len, h8]; exact agg_tab
  have HI := Lib.hid (fun k (hk : k < 8) v hv W => run_index_agg (P := Tryd.prog) (t := 75) (e := 3) (n := 8) (cs := (iv l).toArray) (v := v) Tryd.underlying75 Tryd.underlying3 rfl (by kernel_rfl) k hk hv W)
  have HG : Hid (∀ k, k < 8 → (iv l).toArray[k]? = some (.int .i64 (l.getD k 0))) := fun k hk => by
    rw [List.getElem?_toArray, iv_get (by omega), List.getD_eq_getElem?_getD, List.getElem?_eq_getElem (by omega)]; rfl
  have HO := Lib.hid (overK_lt l task)
  clear hb h8
  obtain ⟨W0, hW0⟩ : ∃ W0, w.alloc (.cells (iv l).toArray 75) = W0 := ⟨_, rfl⟩
  rw [hW0] at K0 hcs
  generalize hl : iv l = cl at *
  have HW := Lib.hid hW0
  clear hW0 hl
  go_enter Tryd.func71, Tryd.ntmps71
  go_wp2_with (rw [HW.out]; refine wpList_load_agg rfl 75 (.tmp 2) rfl rfl (cs := cl) hA.out hcs ?_)
  clear hcs
  go_loopw [5, 9] (fun s i wr => ∃ k : Nat, k ≤ 8 ∧ i = .int .i64 k ∧ s = .int .u32 (overK l task k : Int) ∧ Keep [] w wr) (fun _ i _ => 8 - (intOf i).toNat)
  case atStart => exact ⟨0, Nat.zero_le _, rfl, rfl, K0⟩
  case round =>
    clear K0
    obtain ⟨k, hk, rfl, rfl, hK⟩ := hrel
    by_cases hlt : k < 8
    · have hrun := fun W => HI.out k hlt _ (HG.out k hlt) W
      have hol := HO.out k (by omega)
      have hWi := fun w => Lib.hid (with_any (overK l task k) (k : Int) w (by omega))
      have hbn : Hid (bitN (k : Int) = 2 ^ k) := bitN_nat (by omega)
      have hst : Hid (overK l task (k + 1) = if l.getD k 0 ≤ task ∧ l.getD k 0 < 16 then overK l task k ||| 2 ^ k else overK l task k) := rfl
      clear hol
      generalize l.getD k 0 = z at *
      have hcase : (z ≤ task ∧ z < 16) ∨ (z ≤ task ∧ 16 ≤ z) ∨ task < z := by omega
      rcases hcase with ⟨h1, h2⟩ | ⟨h1, h2⟩ | h1
      · have HS : Hid (overK l task (k + 1) = overK l task k ||| 2 ^ k) := by show _ = _; rw [hst.out, if_pos ⟨h1, h2⟩]
        generalize overK l task k = o at *
        go_wp2_with (refine (hWi _).out.mono ?_; rintro e w' ⟨rfl, rfl⟩)
        rw [hbn.out]
        go_roundw
        case rel => exact ⟨k + 1, by omega, by go_num, by rw [HS.out], hK⟩
        case measure => simp [intOf] <;> omega
      · have HS : Hid (overK l task (k + 1) = overK l task k) := by show _ = _; rw [hst.out, if_neg (by omega)]
        generalize overK l task k = o at *
        go_wp2
        go_roundw
        case rel => exact ⟨k + 1, by omega, by go_num, by rw [HS.out], hK⟩
        case measure => simp [intOf] <;> omega
      · have HS : Hid (overK l task (k + 1) = overK l task k) := by show _ = _; rw [hst.out, if_neg (by omega)]
        generalize overK l task k = o at *
        go_wp2
        go_roundw
        case rel => exact ⟨k + 1, by omega, by go_num, by rw [HS.out], hK⟩
        case measure => simp [intOf] <;> omega
    · obtain rfl : k = 8 := by omega
      go_wp2
      go_ret
      exact ⟨rfl, hK⟩
end Go.Proofs.YtajlkfhekligeaaDoor
