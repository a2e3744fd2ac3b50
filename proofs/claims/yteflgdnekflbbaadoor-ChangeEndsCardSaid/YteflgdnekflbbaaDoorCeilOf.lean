/- mask's Below and Above. No condition. Ceilings: the empty table, and the resources whose ceiling is a task or one ahead of it. No condition. The ceilings of a set of an image's tasks. Condition: the table of math/bits lies where the program's text lays it. -/
import Derived.Test.YteflgdnekflbbaaDoorMask
import Derived.Test.YteflgdnekflbbaaDoorImgT
import Derived.RangeFuncNested
import Derived.Test.YteflgdnekflbbaaDoorUses
import Derived.Test.YteflgdnekflbbaaDoorTerms
namespace Go.Proofs.YteflgdnekflbbaaDoor
open Go.RowKit

/-- Those of a set that are less than a number, or greater. -/
def belowN (s : Nat) (n : Int) : Nat := if n ≤ 0 then 0 else if 31 < n then s else s &&& (2 ^ n.toNat - 1)
def aboveN (s : Nat) (n : Int) : Nat := if n < 0 then s else s &&& (4294967295 - (belowN s n ||| bitN n))
theorem belowN_lt {s : Nat} (n : Int) (h : s < 4294967296) : belowN s n < 4294967296 := by
  unfold belowN
  split
  · omega
  · split
    · exact h
    · exact Nat.lt_of_le_of_lt Nat.and_le_left h
theorem belowN_bit (s : Nat) (n : Int) (i : Nat) (hi : i < 32) : (belowN s n).testBit i = (s.testBit i && decide ((i : Int) < n)) := by
  unfold belowN
  by_cases h1 : n ≤ 0
  · rw [if_pos h1]
    have : decide ((i : Int) < n) = false := decide_eq_false (by omega)
    rw [this, Bool.and_false, Nat.zero_testBit]
  · rw [if_neg h1]
    by_cases h2 : 31 < n
    · rw [if_pos h2]
      have : decide ((i : Int) < n) = true := decide_eq_true (by omega)
      rw [this, Bool.and_true]
    · rw [if_neg h2, Nat.testBit_and, Nat.testBit_two_pow_sub_one]
      congr 1
      rw [Bool.eq_iff_iff]; simp <;> omega

set_option maxRecDepth 100000 in
set_option maxHeartbeats 1000000 in
theorem below_any (s : Nat) (n : Int) (w : World) (hs : s < 4294967296) : Calls Tryd.prog 61 #[.int .u32 (s : Int), .int .i64 n] w fun e w' => e = .returned (.int .u32 (belowN s n : Int)) ∧ w = w' := by
  have hc : n ≤ 0 ∨ 31 < n ∨ (1 ≤ n ∧ n ≤ 31) := by omega
  rcases hc with h | h | ⟨h1, h2⟩
  · have HB : Hid (belowN s n = 0) := by show _ = _; unfold belowN; rw [if_pos h]
    go_enter Tryd.func61, Tryd.ntmps61
    go_wp2
    go_ret
    exact ⟨by rw [HB.out]; rfl, rfl⟩
  · have HB : Hid (belowN s n = s) := by show _ = _; unfold belowN; rw [if_neg (by omega), if_pos h]
    go_enter Tryd.func61, Tryd.ntmps61
    go_wp2
    go_ret
    exact ⟨by rw [HB.out]; rfl, rfl⟩
  · obtain ⟨k, rfl⟩ : ∃ k : Nat, n = (k : Int) := ⟨n.toNat, by omega⟩
    have HB : Hid (belowN s k = s &&& (2 ^ k - 1)) := by show _ = _; unfold belowN; rw [if_neg (by omega), if_neg (by omega), Int.toNat_natCast]
    have hp31 : 2 ^ k ≤ 2 ^ 31 := Nat.pow_le_pow_right (by decide) (by omega)
    have hp0 := Nat.two_pow_pos k
    have HPM : Hid (((2 : Int) ^ k - 1) % 4294967296 = ((2 ^ k - 1 : Nat) : Int)) := by
      show _ = _
      have e : ((2 : Int) ^ k) = ((2 ^ k : Nat) : Int) := by norm_cast
      rw [e, Int.emod_eq_of_lt (by omega) (by omega)]
      omega
    have HA : Hid (bits .and .u32 (s : Int) ((2 ^ k - 1 : Nat) : Int) = ((s &&& (2 ^ k - 1) : Nat) : Int)) := u32_and_nat s (2 ^ k - 1) hs (by omega)
    clear hp31 hp0
    go_enter Tryd.func61, Tryd.ntmps61
    go_wp2
    go_ret
    refine ⟨?_, rfl⟩
    rw [HB.out]
    show Ending.returned (.int .u32 (bits BinOp.and IntKind.u32 (s : Int) ((2 ^ k - 1) % 4294967296))) = _
    rw [HPM.out, HA.out]
theorem flip_bit (b i : Nat) (hb : b < 4294967296) (hi : i < 32) : (4294967295 - b).testBit i = !b.testBit i := by
  have e : (4294967295 - b) = 2 ^ 32 - (b + 1) := by omega
  rw [e, Nat.testBit_two_pow_sub_succ hb]
  simp [hi]
theorem bitN_bit (n : Int) (i : Nat) (hi : i < 32) : (bitN n).testBit i = decide (n = (i : Int)) := by
  unfold bitN
  split
  · rename_i h
    rw [Nat.testBit_two_pow]
    rw [Bool.eq_iff_iff]; simp; omega
  · rw [Nat.zero_testBit]
    rw [Bool.eq_iff_iff]; simp; omega
theorem aboveN_lt {s : Nat} (n : Int) (h : s < 4294967296) : aboveN s n < 4294967296 := by
  unfold aboveN
  split
  · exact h
  · exact Nat.lt_of_le_of_lt Nat.and_le_left h
theorem aboveN_bit (s : Nat) (n : Int) (i : Nat) (hs : s < 4294967296) (hi : i < 32) : (aboveN s n).testBit i = (s.testBit i && decide (n < (i : Int))) := by
  unfold aboveN
  split
  · have : decide (n < (i : Int)) = true := by simp; omega
    rw [this, Bool.and_true]
  · rw [Nat.testBit_and, flip_bit _ _ (Nat.or_lt_two_pow (n := 32) (belowN_lt n hs) (bitN_lt n)) hi, Nat.testBit_or, belowN_bit _ _ _ hi, bitN_bit _ _ hi]
    cases s.testBit i
    · rfl
    · rw [Bool.eq_iff_iff]; simp; omega

set_option maxRecDepth 100000 in
set_option maxHeartbeats 1000000 in
theorem above_any (s : Nat) (n : Int) (w : World) (hs : s < 4294967296) : Calls Tryd.prog 69 #[.int .u32 (s : Int), .int .i64 n] w fun e w' => e = .returned (.int .u32 (aboveN s n : Int)) ∧ w = w' := by
  have hbl := belowN_lt n hs
  have hb2 : belowN s n ||| bitN n < 4294967296 := Nat.or_lt_two_pow (n := 32) hbl (bitN_lt n)
  have HA : Hid (bits .andNot .u32 (s : Int) ((belowN s n ||| bitN n : Nat) : Int) = ((s &&& (4294967295 - (belowN s n ||| bitN n)) : Nat) : Int)) := u32_andNot_nat s _ hs hb2
  rcases Int.lt_or_le n 0 with h | h
  · have HB : Hid (aboveN s n = s) := by show _ = _; unfold aboveN; rw [if_pos h]
    go_enter Tryd.func69, Tryd.ntmps69
    go_wp2
    go_ret
    exact ⟨by rw [HB.out]; rfl, rfl⟩
  · have HB : Hid (aboveN s n = s &&& (4294967295 - (belowN s n ||| bitN n))) := by show _ = _; unfold aboveN; rw [if_neg (by omega)]
    go_enter Tryd.func69, Tryd.ntmps69
    go_wp2_with (first
      | (refine (below_any s n _ hs).mono ?_; rintro e w' ⟨rfl, rfl⟩)
      | (refine (with_any _ n _ hbl).mono ?_; rintro e w' ⟨rfl, rfl⟩))
    go_ret
    refine ⟨?_, rfl⟩
    rw [HB.out, ← HA.out]
    rfl
end Go.Proofs.YteflgdnekflbbaaDoor

namespace Go.Proofs.YteflgdnekflbbaaDoor
open Go.RowKit

theorem agg_tab : AggOf Tryd.prog 104 8 := ⟨by kernel_rfl, by kernel_rfl⟩
theorem iv_len (l : List Int) : (iv l).length = l.length := List.length_map _
def emptyTab : List Int := List.replicate 8 16
def fillTab (k : Nat) : List Int := List.replicate k 16 ++ List.replicate (8 - k) 0
theorem fillTab_step (k : Nat) (h : k < 8) : (iv (fillTab k)).toArray.setIfInBounds k (.int .i64 16) = (iv (fillTab (k + 1))).toArray := by
  have hc : k = 0 ∨ k = 1 ∨ k = 2 ∨ k = 3 ∨ k = 4 ∨ k = 5 ∨ k = 6 ∨ k = 7 := by omega
  rcases hc with rfl | rfl | rfl | rfl | rfl | rfl | rfl | rfl <;> rfl
set_option maxRecDepth 100000 in
set_option maxHeartbeats 1000000 in
theorem cempty_any (w : World) : Calls Tryd.prog 54 #[] w fun e w' => e = .returned (.agg (iv emptyTab).toArray) ∧ Keep [] w w' := by
  go_enter Tryd.func54, Tryd.ntmps54
  obtain ⟨W0, hW0⟩ : ∃ W0, (w.alloc (.cells (List.replicate 8 (.int .i64 0)).toArray 104)).alloc (.cells (List.replicate 8 (.int .i64 0)).toArray 104) = W0 := ⟨_, rfl⟩
  have b0 : Blk W0 w.heap.size 104 (List.replicate 8 (.int .i64 0)).toArray := by rw [← hW0]; exact (Blk.new _ _ _).alloc _
  have b1 : Blk W0 (w.heap.size + 1) 104 (iv (fillTab 0)).toArray := by
    rw [← hW0]; have := Blk.new (w.alloc (.cells (List.replicate 8 (.int .i64 0)).toArray 104)) 104 (List.replicate 8 (.int .i64 0)).toArray; rw [World.size_alloc] at this; exact this
  have K0 : Keep [] w W0 := by rw [← hW0]; exact ((Keep.refl _ w).alloc _).alloc _
  have hsz : W0.heap.size = w.heap.size + 2 := by rw [← hW0]; simp
  have HW := Lib.hid hW0
  clear hW0
  go_wp2_with (refine stop_store 104 (.tmp 1) (.tmp 3) rfl ?_)
  constructor
  change wpList _ _ _ _ _ ((w.alloc (.cells (List.replicate 8 (.int .i64 0)).toArray 104)).alloc (.cells (List.replicate 8 (.int .i64 0)).toArray 104))
  rw [HW.out]
  refine wpList_store_all rfl 104 (.tmp 1) (.tmp 3) rfl (vs := iv (fillTab 0)) rfl rfl (by kernel_rfl) b1 (iv_one _) rfl ?_
  intro w1 d1 k1
  have hK1 := K0.trans k1 (fun y hy hlt => by simp at hy; omega)
  have b01 := b0.keep k1 (by simp)
  clear k1 K0 b0 b1
  go_wp2
  go_loopw [4] (fun i wr => ∃ k : Nat, k ≤ 8 ∧ i = .int .i64 k ∧ Blk wr (w.heap.size + 1) 104 (iv (fillTab k)).toArray ∧ Blk wr w.heap.size 104 (List.replicate 8 (.int .i64 0)).toArray ∧ Keep [] w wr) (fun i _ => 8 - (intOf i).toNat)
  case atStart => exact ⟨0, Nat.zero_le _, rfl, d1, b01, hK1⟩
  case round =>
    obtain ⟨k, hk, rfl, hb, hb0, hK⟩ := hrel
    by_cases hlt : k < 8
    · have HS := Lib.hid (fillTab_step k hlt)
      have hl : k < (iv (fillTab k)).toArray.size := by simp [fillTab]; omega
      have hc := hb.cell k
      rw [Array.getElem?_eq_getElem hl] at hc
      have hf := hb.frozen k
      have n1 := hb.set_ k (.int .i64 16)
      rw [HS.out] at n1
      have n2 := hb0.keep (keep_set wr (w.heap.size + 1) k (.int .i64 16)) (by simp)
      have n3 := hK.trans (keep_set wr (w.heap.size + 1) k (.int .i64 16)) (fun y hy hlt => by simp at hy; omega)
      have HB := Lib.hid (And.intro n1 (And.intro n2 n3))
      clear n1 n2 n3 hb hb0 hK HS d1 b01 hK1
      generalize (iv (fillTab k)).toArray[k] = z at *
      have q0 : (0 : Int) ≤ (k : Int) := by omega
      have q1 : (k : Int) < 8 := by omega
      go_wp2
      go_roundw
      case rel => exact ⟨k + 1, by omega, by go_num, HB.out.1, HB.out.2.1, HB.out.2.2⟩
      case measure => simp [intOf] <;> omega
    · obtain rfl : k = 8 := by omega
      have hcs := hb.cellsAt
      have HK := Lib.hid hK
      clear d1 b01 hK1 hK
      go_wp2_with (first
        | (refine wpList_load_agg rfl 104 (.tmp 1) rfl rfl (cs := iv (fillTab 8)) agg_tab hcs ?_)
        | (refine stop_store 104 (.tmp 0) (.tmp 10) rfl ?_))
      constructor
      refine wpList_store_all rfl 104 (.tmp 0) (.tmp 10) rfl rfl rfl (by kernel_rfl) hb0 (iv_one _) rfl ?_
      intro w2 d2 k2
      have HK2 : Hid (Keep [] w w2) := HK.out.trans k2 (fun y hy hlt => by simp at hy; omega)
      clear k2
      go_wp2
      refine bodyPost_ret (results_blk rfl _ rfl d2 agg_tab) rfl ?_
      exact ⟨rfl, HK2.out⟩

/-- The resources among the first k whose ceiling is a task, or one ahead of it. -/
def overK (l : List Int) (task : Int) : Nat → Nat
  | 0 => 0
  | k + 1 => if l.getD k 0 ≤ task ∧ l.getD k 0 < 16 then overK l task k ||| 2 ^ k else overK l task k
theorem overK_lt (l : List Int) (task : Int) : ∀ k, k ≤ 8 → overK l task k < 256
  | 0, _ => by simp [overK]
  | k + 1, h => by
    have := overK_lt l task k (by omega)
    rw [overK]
    split
    · have h2 : 2 ^ k < 2 ^ 8 := Nat.pow_lt_pow_right (by decide) (by omega)
      exact Nat.or_lt_two_pow (n := 8) this h2
    · exact this
theorem overK_bit (l : List Int) (task : Int) (i : Nat) : ∀ k, (overK l task k).testBit i = (decide (i < k) && decide (l.getD i 0 ≤ task ∧ l.getD i 0 < 16))
  | 0 => by simp [overK]
  | k + 1 => by
    rw [overK]
    by_cases e : i = k
    · subst e
      have hb := overK_bit l task i i
      generalize overK l task i = o at *
      generalize l.getD i 0 = z at *
      have h0 : decide (i < i) = false := decide_eq_false (by omega)
      have h1 : decide (i < i + 1) = true := decide_eq_true (by omega)
      rw [h0, Bool.false_and] at hb
      rw [h1, Bool.true_and]
      split
      · rename_i h
        rw [Nat.testBit_or, Nat.testBit_two_pow, decide_eq_true h, decide_eq_true rfl, Bool.or_true]
      · rename_i h
        rw [hb, decide_eq_false h]
    · have h1 : decide (i < k + 1) = decide (i < k) := by rw [Bool.eq_iff_iff]; simp; omega
      rw [h1]
      split
      · rw [Nat.testBit_or, Nat.testBit_two_pow, overK_bit l task i k]
        have : decide (k = i) = false := by simp; omega
        rw [this, Bool.or_false]
      · exact overK_bit l task i k

set_option maxRecDepth 100000 in
set_option maxHeartbeats 1000000 in
theorem over_any (l : List Int) (task : Int) (w : World) (h8 : l.length = 8) : Calls Tryd.prog 68 #[.agg (iv l).toArray, .int .i64 task] w fun e w' => e = .returned (.int .u32 (overK l task 8 : Int)) ∧ Keep [] w w' := by
  have hb := Blk.new w 104 (iv l).toArray
  have K0 := (Keep.refl [] w).alloc (.cells (iv l).toArray 104)
  have hcs := hb.cellsAt
  have hA : Hid (AggOf Tryd.prog 104 (iv l).length) := by show AggOf _ _ _; rw [iv_len, h8]; exact agg_tab
  have HI := Lib.hid (fun k (hk : k < 8) v hv W => run_index_agg (P := Tryd.prog) (t := 104) (e := 3) (n := 8) (cs := (iv l).toArray) (v := v) Tryd.underlying104 Tryd.underlying3 rfl (by kernel_rfl) k hk hv W)
  have HG : Hid (∀ k, k < 8 → (iv l).toArray[k]? = some (.int .i64 (l.getD k 0))) := fun k hk => by
    rw [List.getElem?_toArray, iv_get (by omega), List.getD_eq_getElem?_getD, List.getElem?_eq_getElem (by omega)]; rfl
  have HO := Lib.hid (overK_lt l task)
  clear hb h8
  obtain ⟨W0, hW0⟩ : ∃ W0, w.alloc (.cells (iv l).toArray 104) = W0 := ⟨_, rfl⟩
  rw [hW0] at K0 hcs
  generalize hl : iv l = cl at *
  have HW := Lib.hid hW0
  clear hW0 hl
  go_enter Tryd.func68, Tryd.ntmps68
  go_wp2_with (rw [HW.out]; refine wpList_load_agg rfl 104 (.tmp 2) rfl rfl (cs := cl) hA.out hcs ?_)
  clear hcs
  go_loopw [5, 9] (fun s i wr => ∃ k : Nat, k ≤ 8 ∧ i = .int .i64 k ∧ s = .int .u32 (overK l task k : Int) ∧ Keep [] w wr) (fun _ i _ => 8 - (intOf i).toNat)
  case atStart => exact ⟨0, Nat.zero_le _, rfl, rfl, K0⟩
  case round =>
    clear K0
    obtain ⟨k, hk, rfl, rfl, hK⟩ := hrel
    by_cases hlt : k < 8
    · have hrun := fun W => HI.out k hlt _ (HG.out k hlt) W
      have hol := HO.out k (by omega)
      have hWi := fun w => Lib.hid (with_any (overK l task k) (k : Int) w (by omega))
      have hbn : Hid (bitN (k : Int) = 2 ^ k) := bitN_nat (by omega)
      have hst : Hid (overK l task (k + 1) = if l.getD k 0 ≤ task ∧ l.getD k 0 < 16 then overK l task k ||| 2 ^ k else overK l task k) := rfl
      clear hol
      generalize l.getD k 0 = z at *
      have hcase : (z ≤ task ∧ z < 16) ∨ (z ≤ task ∧ 16 ≤ z) ∨ task < z := by omega
      rcases hcase with ⟨h1, h2⟩ | ⟨h1, h2⟩ | h1
      · have HS : Hid (overK l task (k + 1) = overK l task k ||| 2 ^ k) := by show _ = _; rw [hst.out, if_pos ⟨h1, h2⟩]
        generalize overK l task k = o at *
        go_wp2_with (refine (hWi _).out.mono ?_; rintro e w' ⟨rfl, rfl⟩)
        rw [hbn.out]
        go_roundw
        case rel => exact ⟨k + 1, by omega, by go_num, by rw [HS.out], hK⟩
        case measure => simp [intOf] <;> omega
      · have HS : Hid (overK l task (k + 1) = overK l task k) := by show _ = _; rw [hst.out, if_neg (by omega)]
        generalize overK l task k = o at *
        go_wp2
        go_roundw
        case rel => exact ⟨k + 1, by omega, by go_num, by rw [HS.out], hK⟩
        case measure => simp [intOf] <;> omega
      · have HS : Hid (overK l task (k + 1) = overK l task k) := by show _ = _; rw [hst.out, if_neg (by omega)]
        generalize overK l task k = o at *
        go_wp2
        go_roundw
        case rel => exact ⟨k + 1, by omega, by go_num, by rw [HS.out], hK⟩
        case measure => simp [intOf] <;> omega
    · obtain rfl : k = 8 := by omega
      go_wp2
      go_ret
      exact ⟨rfl, hK⟩
end Go.Proofs.YteflgdnekflbbaaDoor

namespace Go.Proofs.YteflgdnekflbbaaDoor
open Go.RowKit
attribute [local go_sem] Oper.semAt_some noOut_normal

/-- One use of a resource by task i. -/
def useStep (i : Nat) (t : List Int) (p : PII) : List Int := t.set p.1.toNat (min (t.getD p.1.toNat 0) (i : Int))
def taskStep (l : List Tsk) (t : List Int) (i : Nat) : List Int := match l[i]? with | some k => (usesK k.lon 8).foldl (useStep i) t | none => t
def ceilIn (l : List Tsk) (is : List Nat) : List Int := is.foldl (taskStep l) emptyTab
def ceilOf (l : List Tsk) (s : Nat) : List Int := ceilIn l (bitsL s)
theorem useStep_len (i : Nat) (t : List Int) (p : PII) : (useStep i t p).length = t.length := by simp [useStep]
theorem uses_len (i : Nat) : ∀ (ps : List PII) (t : List Int), (ps.foldl (useStep i) t).length = t.length
  | [], _ => rfl
  | p :: ps, t => by rw [List.foldl_cons, uses_len i ps, useStep_len]
theorem taskStep_len (l : List Tsk) (t : List Int) (i : Nat) : (taskStep l t i).length = t.length := by
  unfold taskStep
  split
  · exact uses_len i _ t
  · rfl
theorem ceilIn_from (l : List Tsk) : ∀ (is : List Nat) (t : List Int), (is.foldl (taskStep l) t).length = t.length
  | [], _ => rfl
  | i :: is, t => by rw [List.foldl_cons, ceilIn_from l is, taskStep_len]
theorem ceilIn_len (l : List Tsk) (is : List Nat) : (ceilIn l is).length = 8 := ceilIn_from l is emptyTab
theorem ceilIn_snoc (l : List Tsk) (is : List Nat) (i : Nat) : ceilIn l (is ++ [i]) = taskStep l (ceilIn l is) i := by simp [ceilIn]
theorem bitsL_sorted (s : Nat) : (bitsL s).Pairwise (· < ·) := by
  unfold bitsL
  exact List.Pairwise.filter _ List.pairwise_lt_range
theorem taskStep_far (l : List Tsk) (t : List Int) (i : Nat) (h : l.length ≤ i) : taskStep l t i = t := by
  unfold taskStep
  rw [List.getElem?_eq_none h]
theorem ceilIn_far (l : List Tsk) : ∀ (is : List Nat) (t : List Int), (∀ i ∈ is, l.length ≤ i) → is.foldl (taskStep l) t = t
  | [], _, _ => rfl
  | i :: is, t, h => by rw [List.foldl_cons, taskStep_far l t i (h i (by simp)), ceilIn_far l is t (fun j hj => h j (by simp [hj]))]
/-- Where a task is none, those behind it are none. -/
theorem ceilOf_stop (l : List Tsk) (s : Nat) {q : List Nat} {i : Nat} (h : q ++ [i] <+: bitsL s) (hi : l.length ≤ i) : ceilOf l s = ceilIn l q := by
  obtain ⟨r, hr⟩ := h
  have hs := bitsL_sorted s
  rw [← hr] at hs
  unfold ceilOf ceilIn
  rw [← hr, List.append_assoc, List.foldl_append, ceilIn_far]
  intro j hj
  rw [List.append_assoc] at hs
  have h2 := (List.pairwise_append.1 hs).2.1
  simp only [List.singleton_append, List.pairwise_cons, List.mem_cons] at h2 hj
  rcases hj with rfl | hj
  · exact hi
  · have := h2.1 j hj; omega
theorem usesK_mem {l : List Int} {p : PII} : ∀ {k : Nat}, p ∈ usesK l k → ∃ r : Nat, p.1 = (r : Int) ∧ r < k
  | 0, h => by simp [usesK] at h
  | k + 1, h => by
    rw [usesK, List.mem_append] at h
    rcases h with h | h
    · obtain ⟨r, h1, h2⟩ := usesK_mem h
      exact ⟨r, h1, by omega⟩
    · split at h
      · simp at h; exact ⟨k, by rw [h], by omega⟩
      · simp at h

set_option maxRecDepth 100000 in
set_option maxHeartbeats 1000000 in
theorem ceilOf_any (v : ImgV) (x : Img) (s : Nat) (w : World) (hT : Tab w) (h : ImgAt w v x) (hs : s < 4294967296) :
    Calls Tryd.prog 39 #[.agg (imgCells v x).toArray, .int .u32 (s : Int)] w fun e w' => e = .returned (.agg (iv (ceilOf x.tasks s)).toArray) ∧ Keep [] w w' := by
  rw [← callsIn_wide (n := 9)]
  refine callsIn_of_wp_marks Tryd.func39 rfl trivial ?_ rfl
  simp only [Tryd.ntmps39, List.size_toArray, List.length_cons, List.length_nil, Nat.reduceAdd, Nat.reduceSub, Array.replicate_succ, Array.replicate_zero, List.push_toArray, List.append_toArray, List.nil_append, List.cons_append]
  have HL := Lib.hid h.lt
  have HI := Lib.hid h
  have HTb := Lib.hid hT
  have hI1 : Hid (∀ g W, Blk W g 26 (imgCells v x).toArray → W.cell? ⟨g, 1, none⟩ = some (.slice v.ta x.tasks.length v.tc)) := fun g W hb => img_c1 hb
  obtain ⟨W0, hW0⟩ : ∃ W0, (w.alloc (.cells (imgCells v x).toArray 26)).alloc (.cells (List.replicate 8 (.int .i64 0)).toArray 104) = W0 := ⟨_, rfl⟩
  have b0 : Blk W0 w.heap.size 26 (imgCells v x).toArray := by rw [← hW0]; exact (Blk.new _ _ _).alloc _
  have b1 : Blk W0 (w.heap.size + 1) 104 (List.replicate 8 (.int .i64 0)).toArray := by
    rw [← hW0]; have := Blk.new (w.alloc (.cells (imgCells v x).toArray 26)) 104 (List.replicate 8 (.int .i64 0)).toArray; rw [World.size_alloc] at this; exact this
  have K0 : Keep [] w W0 := by rw [← hW0]; exact ((Keep.refl _ w).alloc _).alloc _
  have hsz : W0.heap.size = w.heap.size + 2 := by rw [← hW0]; simp
  clear h hT
  generalize hcs : (imgCells v x).toArray = cs at *
  have HW := Lib.hid hW0
  clear hW0
  gi_wp2_with (first
    | (refine ⟨trivial, ?_⟩; gi_at_call 54; refine (callsIn_wide.2 (cempty_any _)).mono ?_; rintro e w1 ⟨rfl, k1⟩)
    | (refine stopIn_store 104 (.tmp 5) (.tmp 8) rfl ?_))
  constructor
  have k1' : Keep [] W0 w1 := by rw [← HW.out]; exact k1
  refine wpListIn_store_all rfl 104 (.tmp 5) (.tmp 8) rfl rfl rfl (vs := iv emptyTab) (by kernel_rfl) (Blk.new _ _ _) (iv_one _) rfl ?_
  intro w2 d2 k2
  have hs1 := k1'.size
  have K2 : Keep [] W0 w2 := (k1'.alloc _).trans k2 (fun y hy hlt => by simp at hy; omega)
  have hs2 := k2.size
  simp at hs2
  have hg5 : W0.heap.size ≤ w1.heap.size := hs1
  clear k1 k1' k2 HW
  gi_wp2_with (refine ⟨trivial, ?_⟩; gi_at_call 40; refine (callsIn_wide.2 (maskAll_any s _)).mono ?_; rintro e w' ⟨rfl, rfl⟩)
  obtain ⟨W3, hW3⟩ : ∃ W3, w2.alloc (.cells #[.int .u32 (s : Int)] 36) = W3 := ⟨_, rfl⟩
  have hsz3 : W3.heap.size = w2.heap.size + 1 := by rw [← hW3]; simp
  have b3 : Blk W3 w2.heap.size 36 #[.int .u32 (s : Int)] := by rw [← hW3]; exact Blk.new _ _ _
  have k3 : Keep [] w2 W3 := by rw [← hW3]; exact (Keep.refl _ w2).alloc _
  have d3 := d2.keep0 k3
  have c0 := b0.keep0 (K2.then k3)
  have c1 := b1.keep0 (K2.then k3)
  have K3 : Keep [] w W3 := K0.then (K2.then k3)
  have hTW := HTb.out.keep0 K3
  simp only [hW3]
  obtain ⟨g5, hg⟩ : ∃ g5, w1.heap.size = g5 := ⟨_, rfl⟩
  obtain ⟨g6, hg6⟩ : ∃ g6, w2.heap.size = g6 := ⟨_, rfl⟩
  simp only [hg, hg6] at *
  have hzs : w.heap.size + 1 < g5 ∧ g5 < g6 ∧ W3.heap.size = g6 + 1 := ⟨by omega, by omega, hsz3⟩
  clear hW3 K2 k3 d2 b0 b1 K0 hs1 hs2 hg5 hg hg6
  have hzt := HTb.out.1
  refine wpIn_rangeFunc_ownH (F := Fence.wide) (n := 9) (ps := #[11]) rfl (by omega) (gf := 56) (lb := #[.pointer (some ⟨g6, 0, none⟩)]) rfl trivial (enters_of Tryd.func56 (by kernel_rfl) rfl)
    (maskAll1_stops 8 s g6 W3 (by omega) b3 hs hTW) Same.trans (Same.turn (by simp; omega)) (Below.refl _ _) (fun _ => rfl)
    (fun pre W => Blk W g5 104 (iv (ceilIn x.tasks pre)).toArray ∧ Keep [g5] W3 W)
    (fun c pre W => c = .exit 0 ∧ ∃ q i, pre = q ++ [i] ∧ x.tasks.length ≤ i ∧ Blk W g5 104 (iv (ceilIn x.tasks q)).toArray ∧ Keep [g5] W3 W)
    ?hI ?hIx ⟨d3, Keep.refl _ _⟩
    (fun i a' W => ∃ Bx, W3.heap.size ≤ Bx ∧ Blk W Bx 3 #[.int .i64 (i : Int)] ∧ a' = { tmps := #[.agg cs, .int .u32 (s : Int), .pointer (some ⟨w.heap.size, 0, none⟩), undef, .pointer (some ⟨w.heap.size + 1, 0, none⟩), .pointer (some ⟨g5, 0, none⟩), .pointer (some ⟨Bx, 0, none⟩), undef,
      .agg (iv emptyTab).toArray, .int .u32 (s : Int), .func (.func 56) #[] #[.pointer (some ⟨g6, 0, none⟩)], .int .i64 (i : Int),
      undef, undef, undef, undef, undef, undef, undef, undef, undef, undef, undef, undef, undef, undef, undef, undef, undef, undef, undef, undef, undef], defers := [] }) ?hAx ?assign ?body ?done ?stop
  case hI =>
    intro pre X Y row hs hg hr
    exact ⟨blk_own (β := Unit) _ _ (fun _ => _) () X Y row hs.1 hg hr, keep_own (β := Unit) (Nat.le_refl _) () X Y row hs.2 hg hr⟩
  case hIx =>
    intro c pre X Y row hs hg hr
    obtain ⟨h0, q, i, h1, h2, h3, h4⟩ := hs
    exact ⟨h0, q, i, h1, h2, blk_own (β := Unit) _ _ (fun _ => _) () X Y row h3 hg hr, keep_own (β := Unit) (Nat.le_refl _) () X Y row h4 hg hr⟩
  case hAx =>
    intro i a' _ X Y row hs hg hr
    obtain ⟨Bx, h1, h2, h3⟩ := hs
    exact ⟨Bx, h1, blk_own (β := Unit) _ _ (fun _ => _) () X Y row h2 hg hr, h3⟩
  case assign =>
    rintro l pre i W K ⟨h1, h2⟩ hK
    have hz := h2.size
    simp only [encN]
    gi_wp2
    have kA := (Keep.refl [] W).alloc (.cells #[.int .i64 (i : Int)] 3)
    exact hK _ _ kA.from0 (Same.keep kA (fun y hy => ⟨by simp only [List.mem_cons, List.not_mem_nil, or_false] at hy; rcases hy with rfl | rfl <;> omega, by simp⟩)) ⟨h1.keep0 kA, h2.then kA⟩ ⟨W.heap.size, hz, Blk.new _ _ _, rfl⟩
  case body =>
    rintro l pre i a' W hl ⟨r, hr⟩ ⟨hb, hK⟩ ⟨Bx, hBx, hbx, rfl⟩ hlt
    have cx := hbx.cell 0
    simp at cx
    have ci := hI1.out _ _ (c0.keep hK (by simp; omega))
    have hlen := HL.out
    unfold maxLen at hlen
    by_cases hi : i < x.tasks.length
    · obtain ⟨b, o, hA, hbw, hcs2⟩ := HI.out.task (by omega)
      have KW : Keep [] w W := K3.trans hK (by intro y hy hlt; simp at hy; omega)
      have HT : Hid (CellsAt W b (o + i * 11) (tskCells x.tasks[i])) := (hcs2 i hi).keep0 KW hbw
      have HTL : Hid ((tskCells x.tasks[i]).length = 11) := tskCells_len (HI.out.ok.lon _ (List.getElem_mem hi))
      have hl8 := HI.out.ok.lon _ (List.getElem_mem hi)
      have hTS : Hid (taskStep x.tasks (ceilIn x.tasks pre) i = (usesK x.tasks[i].lon 8).foldl (useStep i) (ceilIn x.tasks pre)) := by
        show _ = _
        unfold taskStep; rw [List.getElem?_eq_getElem hi]
      have hst := fun n B w => Lib.hid (uses1_seq n x.tasks[i] B w)
      have HU := fun w => Lib.hid (uses_any x.tasks[i] w)
      have q0 : (0 : Int) ≤ (i : Int) := by omega
      have q1 : (i : Int) < (x.tasks.length : Int) := by omega
      rw [hA] at ci
      clear hcs2
      generalize x.tasks[i] = tk at *
      generalize tskCells tk = tc at *
      gi_wp2_with (first
        | (refine wpListIn_agg rfl 88 (.tmp 20) rfl rfl (cs := tc) (by rw [HTL.out]; exact agg_task) HT.out ?_)
        | (refine ⟨trivial, ?_⟩; gi_at_call 55; refine ((callsIn_wide.2 (HU _).out).inRound l).mono ?_; rintro e w' ⟨rfl, rfl⟩))
      obtain ⟨V0, hV0⟩ : ∃ V0, W.alloc (.cells tc.toArray 88) = V0 := ⟨_, rfl⟩
      have kV : Keep [] W V0 := by rw [← hV0]; exact (Keep.refl _ W).alloc _
      have bV : Blk V0 W.heap.size 88 tc.toArray := by rw [← hV0]; exact Blk.new _ _ _
      have szV : V0.heap.size = W.heap.size + 1 := by rw [← hV0]; simp
      have hr' : V0.heap[l]? = some (.loop r) := (kV.block l (Array.getElem?_eq_some_iff.1 hr).1 (by simp)).trans hr
      have hb' := hb.keep0 kV
      have hbx' := hbx.keep0 kV
      simp only [hV0]
      clear hV0 ci cx
      have hzW := hK.size
      have HTC := Lib.hid (ceilIn_len x.tasks pre)
      have HSN := Lib.hid (ceilIn_snoc x.tasks pre i)
      generalize ceilIn x.tasks pre = T at *
      generalize hul : usesK tk.lon 8 = ul at *
      have HUL : Hid (∀ p ∈ ul, ∃ r : Nat, p.1 = (r : Int) ∧ r < 8) := fun p hp => usesK_mem (by rw [hul]; exact hp)
      have hgBx : g5 ≠ Bx := by omega
      refine wpIn_rangeFunc_ownN (l₀ := l) (r₀ := r) rfl hr' (by omega) (gf := 67) (lb := #[.pointer (some ⟨W.heap.size, 0, none⟩)]) rfl trivial (enters_of Tryd.func67 (by kernel_rfl) rfl)
        (((hst 6 W.heap.size V0).out (by omega) bV hl8).sub.inRound l) Same.trans (Same.turn (by simp; omega)) (Below.refl _ _) (fun _ => rfl)
        (fun pre' W' => Blk W' g5 104 (iv ((outs pre').foldl (useStep i) T)).toArray ∧ Blk W' Bx 3 #[.int .i64 (i : Int)] ∧ Keep [g5] V0 W')
        (fun _ _ _ => False)
        ?hI2 ?hIx2 ⟨hb', hbx', Keep.refl _ _⟩
        (fun y a'' _ => a'' = { tmps := #[.agg cs, .int .u32 (s : Int), .pointer (some ⟨w.heap.size, 0, none⟩), undef, .pointer (some ⟨w.heap.size + 1, 0, none⟩), .pointer (some ⟨g5, 0, none⟩), .pointer (some ⟨Bx, 0, none⟩), .int .i64 y.1.1,
          .agg (iv emptyTab).toArray, .int .u32 (s : Int), .func (.func 56) #[] #[.pointer (some ⟨g6, 0, none⟩)], .int .i64 (i : Int),
          .int .i64 (i : Int), .pointer (some ⟨w.heap.size, 1, none⟩), .slice (some ⟨b, o, none⟩) x.tasks.length v.tc, .int .i64 (x.tasks.length : Int), .bool false, .pointer (some ⟨w.heap.size, 1, none⟩), .slice (some ⟨b, o, none⟩) x.tasks.length v.tc, .int .i64 (i : Int),
          .pointer (some ⟨b, o + i * 11, none⟩), .agg tc.toArray, .func (.func 67) #[] #[.pointer (some ⟨W.heap.size, 0, none⟩)], .int .i64 y.1.1, .int .i64 y.1.2, undef, undef, undef, undef, undef, undef, undef, undef], defers := [] })
        (fun _ _ _ _ _ _ hs _ _ => hs) ?assign2 ?body2 ?done2 ?stop2
      case hI2 =>
        intro pre' X Y row hs hg hr
        exact ⟨blk_own (β := Unit) _ _ (fun _ => _) () X Y row hs.1 hg hr, blk_own (β := Unit) _ _ (fun _ => _) () X Y row hs.2.1 hg hr, keep_own (β := Unit) (by omega) () X Y row hs.2.2 hg hr⟩
      case hIx2 => exact fun _ _ _ _ _ hs _ _ => hs
      case assign2 =>
        rintro l2 pre' y W' K hi2 hK2
        simp only [encPII]
        gi_wp2
        exact hK2 _ _ (KeepsFrom.refl _ _) (Same.refl _ _) hi2 rfl
      case body2 =>
        rintro l2 pre' y a'' W' _ _ ⟨hb2, hx2, hK2⟩ rfl hlt2
        obtain ⟨⟨yr, yn⟩, hy⟩ := y
        obtain ⟨q, hq, hq8⟩ := HUL.out _ hy
        have hq : yr = (q : Int) := hq
        subst hq
        have hlT : ((outs pre').foldl (useStep i) T).length = 8 := by rw [uses_len, HTC.out]
        have HS : Hid (((outs (pre' ++ [(⟨((q : Int), yn), hy⟩ : {x // x ∈ ul})])).foldl (useStep i) T) = ((outs pre').foldl (useStep i) T).set q (min (((outs pre').foldl (useStep i) T).getD q 0) (i : Int))) := by
          show _ = _
          rw [outs_snoc, List.foldl_append]; rfl
        generalize (outs pre').foldl (useStep i) T = U at *
        have hcU := hb2.cell q
        rw [List.getElem?_toArray, iv_get (by omega)] at hcU
        have hgU : U.getD q 0 = U[q] := by rw [List.getD_eq_getElem?_getD, List.getElem?_eq_getElem (by omega)]; rfl
        rw [hgU] at HS
        have hset : ∀ z : Int, (iv U).toArray.setIfInBounds q (.int .i64 z) = (iv (U.set q z)).toArray := fun z => by simp [iv, List.map_set]
        have n1 := fun z => hset z ▸ hb2.set_ q (.int .i64 z)
        generalize U[q] = z at *
        have p0 : (0 : Int) ≤ (q : Int) := by omega
        have p1 : (q : Int) < 8 := by omega
        have cU := hcU
        have cI := hx2.cell 0
        have fU := hb2.frozen q
        simp at cI
        have HB := Lib.hid hb2
        have HX2 := Lib.hid hx2
        have HK2 := Lib.hid hK2
        have hF : ∀ w', Keep [] W' w' → w'.cell? ⟨g5, q, none⟩ = some (.int .i64 z) ∧ w'.cell? ⟨Bx, 0, none⟩ = some (.int .i64 (i : Int)) := fun w' hw =>
          ⟨(hw.cell (p := ⟨g5, q, none⟩) (HB.out.lt) (by simp)).trans cU, (hw.cell (p := ⟨Bx, 0, none⟩) (HX2.out.lt) (by simp)).trans cI⟩
        have N1 := Lib.hid n1
        clear hb2 hx2 hK2 n1 hset hcU hgU hlT cI
        rcases Int.lt_or_le (i : Int) z with hz | hz
        all_goals
          gi_wp2
          refine ap_start 7 (Keep [] W') (open_round _) rfl rfl (Keep.refl _ _).drew (fun hS hPan => ?_) (fun _ _ _ _ _ h => h)
          (refine ap_val (v := ?_) 0 rfl (by kernel_rfl) (by kernel_rfl) (by kernel_rfl) (by kernel_rfl) (by rfl) hPan ?_ hS ?_; rotate_left; (intro w' hSw; obtain ⟨f1,f2⟩ := hF w' hSw; go_simp; try with_reducible rfl); simp only [Act.put, List.setIfInBounds_toArray, List.set_cons_zero, List.set_cons_succ])
          (refine ap_val (v := ?_) 1 rfl (by kernel_rfl) (by kernel_rfl) (by kernel_rfl) (by kernel_rfl) (by rfl) hPan ?_ hS ?_; rotate_left; (intro w' hSw; obtain ⟨f1,f2⟩ := hF w' hSw; go_simp; try with_reducible rfl); simp only [Act.put, List.setIfInBounds_toArray, List.set_cons_zero, List.set_cons_succ])
          (refine ap_val (v := ?_) 2 rfl (by kernel_rfl) (by kernel_rfl) (by kernel_rfl) (by kernel_rfl) (by rfl) hPan ?_ hS ?_; rotate_left; (intro w' hSw; obtain ⟨f1,f2⟩ := hF w' hSw; go_simp; try with_reducible rfl); simp only [Act.put, List.setIfInBounds_toArray, List.set_cons_zero, List.set_cons_succ])
          (refine ap_val (v := ?_) 3 rfl (by kernel_rfl) (by kernel_rfl) (by kernel_rfl) (by kernel_rfl) (by rfl) hPan ?_ hS ?_; rotate_left; (intro w' hSw; obtain ⟨f1,f2⟩ := hF w' hSw; go_simp; try with_reducible rfl); simp only [Act.put, List.setIfInBounds_toArray, List.set_cons_zero, List.set_cons_succ])
          (refine ap_val (v := ?_) 4 rfl (by kernel_rfl) (by kernel_rfl) (by kernel_rfl) (by kernel_rfl) (by rfl) hPan ?_ hS ?_; rotate_left; (intro w' hSw; obtain ⟨f1,f2⟩ := hF w' hSw; go_simp; try with_reducible rfl); simp only [Act.put, List.setIfInBounds_toArray, List.set_cons_zero, List.set_cons_succ])
          (refine ap_val (v := ?_) 5 rfl (by kernel_rfl) (by kernel_rfl) (by kernel_rfl) (by kernel_rfl) (by rfl) hPan ?_ hS ?_; rotate_left; (intro w' hSw; obtain ⟨f1,f2⟩ := hF w' hSw; go_simp; try with_reducible rfl); simp only [Act.put, List.setIfInBounds_toArray, List.set_cons_zero, List.set_cons_succ])
          (refine ap_val (v := ?_) 6 rfl (by kernel_rfl) (by kernel_rfl) (by kernel_rfl) (by kernel_rfl) (by rfl) hPan ?_ hS ?_; rotate_left; (intro w' hSw; obtain ⟨f1,f2⟩ := hF w' hSw; go_simp; try with_reducible rfl); simp only [Act.put, List.setIfInBounds_toArray, List.set_cons_zero, List.set_cons_succ])
          have hD : Blk W'.drew g5 104 (iv U).toArray := HB.out.drew
          refine ap_one 7 (by kernel_rfl) ?_
          refine op_store1 7 rfl (by rfl) rfl rfl rfl (by kernel_rfl) rfl rfl cU fU ?_
          refine ⟨fun h => (by cases h), ap_done (by kernel_rfl) ?_ _⟩
          rw [noOut_normal]
          (simp only [Act.put])
          gi_wp2
          have k1 := (Keep.refl [g5] W').drew
          have hUz : ∀ zz : Int, Keep [g5] W' (W'.drew.setCell ⟨g5, q, none⟩ (.int .i64 zz)) := fun zz => k1.setCell (by simp) _
          refine ⟨(hUz _).from (fun y hy => .inl (by simp at hy; omega)), Same.keep (hUz _) (fun y hy => ⟨by simp at hy; subst hy; have := HK2.out.size; omega, by simp at hy ⊢; omega⟩), ?_, HX2.out.keep (hUz _) (by simp; omega), HK2.out.trans (hUz _) (by simp)⟩
          rw [HS.out]
          first
            | (rw [show min z (i : Int) = (i : Int) by omega]; exact N1.out _)
            | (rw [show min z (i : Int) = z by omega]; exact N1.out _)
      case done2 =>
        rintro us W' hus ⟨hb2, hx2, hK2'⟩
        have hK2 : Keep [g5] W W' := (kV.mono (by simp)).trans hK2' (by simp)
        gi_wp2
        refine ⟨hK2.from (fun y hy => .inl (by simp at hy; omega)), Same.keep hK2 (fun y hy => ⟨by simp only [List.mem_cons, List.not_mem_nil, or_false] at hy; rcases hy with rfl | rfl <;> omega, by simp only [List.mem_cons, List.not_mem_nil, or_false] at hy ⊢; rcases hy with rfl | rfl <;> omega⟩), ?_, hK.trans hK2 (by simp)⟩
        rw [HSN.out, hTS.out, ← hus]
        exact hb2
      case stop2 =>
        rintro c pre' W' hpre' hF
        exact hF.elim
    · have hz := hK.size
      gi_wp2
      exact ⟨KeepsFrom.refl _ _, rfl, pre, i, rfl, by omega, hb, hK⟩
  case done =>
    rintro D ys W hD rfl ⟨hb, hK⟩ hD2
    have hcs := hb.cellsAt
    have e1 := c1.keep hK (by simp; omega)
    gi_wp2_with (first
      | (refine wpListIn_agg rfl 104 (.tmp 5) rfl rfl (cs := iv (ceilIn x.tasks (bitsL s))) (by rw [iv_len, ceilIn_len]; exact agg_tab) hcs ?_)
      | (refine stopIn_store 104 (.tmp 4) (.tmp 32) rfl ?_))
    constructor
    refine wpListIn_store_all rfl 104 (.tmp 4) (.tmp 32) rfl rfl rfl (by rw [iv_len, ceilIn_len]; kernel_rfl) e1 (iv_one _) (by rw [iv_len, ceilIn_len]; rfl) ?_
    intro w5 d5 k5
    have hD3 := k5.block D (Array.getElem?_eq_some_iff.1 hD2).1 (by simp; omega) |>.trans hD2
    gi_wp2
    refine ⟨by simp, .inl ⟨_, _, rfl, run_takeDeferred hD3, ?_⟩⟩
    have m1 := blk_putObj (.deferred none) d5 hD3 rfl
    have m3 := ((K3.trans hK (by intro y hy hlt; simp at hy; omega)).trans k5 (fun y hy hlt => by simp at hy; omega)).trans (keep_putObj _ D (.deferred none)) (fun y hy hlt => by simp at hy; omega)
    exact ⟨.agg (iv (ceilOf x.tasks s)).toArray, results_blk rfl _ rfl m1 (by rw [iv_len, ceilIn_len]; exact agg_tab : AggOf _ _ (iv (ceilIn x.tasks (bitsL s))).length), rfl, m3⟩
  case stop =>
    rintro D c pre W hD hpre ⟨rfl, q, i, rfl, hi, hb, hK⟩ hD2
    have HE := Lib.hid (ceilOf_stop x.tasks s hpre hi)
    have hcs := hb.cellsAt
    have e1 := c1.keep hK (by simp; omega)
    gi_wp2_with (first
      | (refine wpListIn_agg rfl 104 (.tmp 5) rfl rfl (cs := iv (ceilIn x.tasks q)) (by rw [iv_len, ceilIn_len]; exact agg_tab) hcs ?_)
      | (refine stopIn_store 104 (.tmp 4) (.tmp 32) rfl ?_))
    constructor
    refine wpListIn_store_all rfl 104 (.tmp 4) (.tmp 32) rfl rfl rfl (by rw [iv_len, ceilIn_len]; kernel_rfl) e1 (iv_one _) (by rw [iv_len, ceilIn_len]; rfl) ?_
    intro w5 d5 k5
    have hD3 := k5.block D (Array.getElem?_eq_some_iff.1 hD2).1 (by simp; omega) |>.trans hD2
    gi_wp2
    refine ⟨by simp, .inl ⟨_, _, rfl, run_takeDeferred hD3, ?_⟩⟩
    have m1 := blk_putObj (.deferred none) d5 hD3 rfl
    have m3 := ((K3.trans hK (by intro y hy hlt; simp at hy; omega)).trans k5 (fun y hy hlt => by simp at hy; omega)).trans (keep_putObj _ D (.deferred none)) (fun y hy hlt => by simp at hy; omega)
    exact ⟨.agg (iv (ceilOf x.tasks s)).toArray, by rw [HE.out]; exact results_blk rfl _ rfl m1 (by rw [iv_len, ceilIn_len]; exact agg_tab), rfl, m3⟩
end Go.Proofs.YteflgdnekflbbaaDoor
