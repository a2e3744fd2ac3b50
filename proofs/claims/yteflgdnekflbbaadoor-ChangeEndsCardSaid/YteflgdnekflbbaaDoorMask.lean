/- The numbers in a set of bits, rising: the least one, and the others. No program in sight. Sets of numbers as bits: what mask's functions answer. No condition. -/
import Derived.Lib.TrailingZeros
import Derived.Test.YteflgdnekflbbaaDoorBase
import Derived.Test.YteflgdnekflbbaaDoorRows
import Derived.Test.YteflgdnekflbbaaDoorReg
import Derived.Test.YteflgdnekflbbaaDoorEqI
import Derived.WalkKit
import Derived.WalkSpells
import Derived.WalkLawsBesides
namespace Go.Proofs.YteflgdnekflbbaaDoor

/-- The numbers of a set, rising. -/
def bitsL (s : Nat) : List Nat := (List.range 32).filter (fun i => s.testBit i)
theorem bitsL_zero : bitsL 0 = [] := by
  unfold bitsL
  rw [List.filter_eq_nil_iff]
  intro i _
  simp
theorem bitsL_mem {s i : Nat} : i ∈ bitsL s ↔ i < 32 ∧ s.testBit i = true := by
  unfold bitsL
  simp
theorem bitsL_le (s : Nat) : (bitsL s).length ≤ 32 := by
  unfold bitsL
  have := List.length_filter_le (fun i => s.testBit i) (List.range 32)
  simpa using this
theorem low_testBit (a m i : Nat) : (2 ^ a * (2 * m + 1)).testBit i = if i < a then false else if i = a then true else m.testBit (i - a - 1) := by
  rw [Nat.testBit_two_pow_mul]
  by_cases h : i < a
  · rw [if_pos h]; simp; omega
  · rw [if_neg h]
    by_cases e : i = a
    · subst e; simp [Nat.testBit_zero]
    · rw [if_neg e]
      have h2 : i - a = (i - a - 1) + 1 := by omega
      rw [h2, Nat.testBit_succ, show (2 * m + 1) / 2 = m by omega]
      simp; omega
theorem pred_testBit (a m i : Nat) : (2 ^ a * (2 * m + 1) - 1).testBit i = if i < a then true else if i = a then false else m.testBit (i - a - 1) := by
  have e : 2 ^ a * (2 * m + 1) - 1 = 2 ^ a * (2 * m) + (2 ^ a - 1) := by
    have := Nat.two_pow_pos a
    rw [Nat.mul_add, Nat.mul_one]; omega
  rw [e, Nat.testBit_two_pow_mul_add _ (by have := Nat.two_pow_pos a; omega)]
  by_cases h : i < a
  · rw [if_pos h, if_pos h, Nat.testBit_two_pow_sub_one]; simp [h]
  · rw [if_neg h, if_neg h]
    by_cases e : i = a
    · subst e; simp [Nat.testBit_zero]
    · rw [if_neg e]
      have h2 : i - a = (i - a - 1) + 1 := by omega
      rw [h2, Nat.testBit_succ, show (2 * m) / 2 = m by omega]
      simp
theorem clear_testBit (a m i : Nat) : (2 ^ a * (2 * m + 1) &&& (2 ^ a * (2 * m + 1) - 1)).testBit i = (decide (a < i) && (2 ^ a * (2 * m + 1)).testBit i) := by
  rw [Nat.testBit_and, low_testBit, pred_testBit]
  by_cases h : i < a
  · simp [h]
  · by_cases e : i = a
    · subst e; simp
    · simp [h, e, show a < i by omega]
/-- A set that is not empty: its least number, and the others. -/
theorem bitsL_step (s : Nat) (h0 : 0 < s) (h : s < 4294967296) : bitsL s = Lib.ctz 32 s :: bitsL (s &&& (s - 1)) ∧ Lib.ctz 32 s < 32 := by
  obtain ⟨m, hm, hlt⟩ := Lib.ctzFrom_spec 32 s h0 h
  have hc : Lib.ctz 32 s = Lib.ctzFrom 32 s := by unfold Lib.ctz; rw [if_neg (by omega)]
  rw [hc]
  generalize Lib.ctzFrom 32 s = a at *
  refine ⟨?_, hlt⟩
  subst hm
  have hr : List.range 32 = List.range a ++ a :: List.range' (a + 1) (31 - a) := by
    rw [List.range_eq_range', List.range_eq_range', show List.range' 0 32 = List.range' 0 (a + (32 - a)) by congr 1; omega, ← List.range'_append_1, Nat.zero_add, show 32 - a = (31 - a) + 1 by omega, List.range'_succ]
  unfold bitsL
  rw [hr, List.filter_append, List.filter_append, List.filter_cons, List.filter_cons]
  have e1 : (List.range a).filter (fun i => (2 ^ a * (2 * m + 1)).testBit i) = [] := by
    rw [List.filter_eq_nil_iff]
    intro i hi
    simp at hi
    rw [low_testBit, if_pos hi]; simp
  have e2 : (List.range a).filter (fun i => (2 ^ a * (2 * m + 1) &&& (2 ^ a * (2 * m + 1) - 1)).testBit i) = [] := by
    rw [List.filter_eq_nil_iff]
    intro i hi
    simp at hi
    rw [clear_testBit]; simp; omega
  have e3 : (List.range' (a + 1) (31 - a)).filter (fun i => (2 ^ a * (2 * m + 1)).testBit i) = (List.range' (a + 1) (31 - a)).filter (fun i => (2 ^ a * (2 * m + 1) &&& (2 ^ a * (2 * m + 1) - 1)).testBit i) := by
    apply List.filter_congr
    intro i hi
    simp at hi
    rw [clear_testBit]; simp [show a < i by omega]
  rw [e1, e2, ← e3, if_pos (by rw [low_testBit]; simp), if_neg (by rw [clear_testBit]; simp)]
  rfl
end Go.Proofs.YteflgdnekflbbaaDoor

namespace Go.Proofs.YteflgdnekflbbaaDoor
open Go.RowKit

def bitN (n : Int) : Nat := if 0 ≤ n ∧ n ≤ 31 then 2 ^ n.toNat else 0
theorem bitN_lt (n : Int) : bitN n < 4294967296 := by
  unfold bitN
  split
  · have : 2 ^ n.toNat ≤ 2 ^ 31 := Nat.pow_le_pow_right (by decide) (by omega)
    omega
  · omega
theorem bitN_nat {k : Nat} (h : k < 32) : bitN (k : Int) = 2 ^ k := by unfold bitN; rw [if_pos (by omega), Int.toNat_natCast]
theorem pow_mod32 {k : Nat} (h : k < 32) : (2 : Int) ^ k % 4294967296 = ((2 ^ k : Nat) : Int) := by
  have h1 : 2 ^ k ≤ 2 ^ 31 := Nat.pow_le_pow_right (by decide) (by omega)
  have e : ((2 : Int) ^ k) = ((2 ^ k : Nat) : Int) := by norm_cast
  rw [e]
  exact Int.emod_eq_of_lt (Int.natCast_nonneg _) (by omega)

set_option maxRecDepth 100000 in
theorem bit_any (n : Int) (w : World) : Calls Tryd.prog 34 #[.int .i64 n] w fun e w' => e = .returned (.int .u32 (bitN n : Int)) ∧ w = w' := by
  have hc : n < 0 ∨ 31 < n ∨ (0 ≤ n ∧ n ≤ 31) := by omega
  rcases hc with h | h | ⟨h1, h2⟩
  · have HB : Hid (bitN n = 0) := by show _ = _; unfold bitN; rw [if_neg (by omega)]
    go_enter Tryd.func34, Tryd.ntmps34
    go_wp2
    go_ret
    exact ⟨by rw [HB.out]; rfl, rfl⟩
  · have HB : Hid (bitN n = 0) := by show _ = _; unfold bitN; rw [if_neg (by omega)]
    have h0 : 0 ≤ n := by omega
    go_enter Tryd.func34, Tryd.ntmps34
    go_wp2
    go_ret
    exact ⟨by rw [HB.out]; rfl, rfl⟩
  · obtain ⟨k, rfl⟩ : ∃ k : Nat, n = (k : Int) := ⟨n.toNat, by omega⟩
    have HB := Lib.hid (bitN_nat (k := k) (by omega))
    have HP := Lib.hid (pow_mod32 (k := k) (by omega))
    go_enter Tryd.func34, Tryd.ntmps34
    go_wp2
    go_ret
    exact ⟨by rw [HB.out, ← HP.out]; rfl, rfl⟩

set_option maxRecDepth 100000 in
theorem with_any (s : Nat) (n : Int) (w : World) (hs : s < 4294967296) : Calls Tryd.prog 24 #[.int .u32 (s : Int), .int .i64 n] w fun e w' => e = .returned (.int .u32 ((s ||| bitN n : Nat) : Int)) ∧ w = w' := by
  have hb := bitN_lt n
  have hu := u32_or_nat s (bitN n) hs hb
  have HU : Hid (_ = _) := hu
  clear hu
  go_enter Tryd.func24, Tryd.ntmps24
  go_wp2_with (refine (bit_any n _).mono ?_; rintro e w' ⟨rfl, rfl⟩)
  go_ret
  exact ⟨by rw [← HU.out]; rfl, rfl⟩
set_option maxRecDepth 100000 in
theorem has_any (s : Nat) (n : Int) (w : World) (hs : s < 4294967296) : Calls Tryd.prog 66 #[.int .u32 (s : Int), .int .i64 n] w fun e w' => e = .returned (.bool (decide (s &&& bitN n ≠ 0))) ∧ w = w' := by
  have hb := bitN_lt n
  have hu := u32_and_nat s (bitN n) hs hb
  have HU : Hid (_ = _) := hu
  clear hu
  go_enter Tryd.func66, Tryd.ntmps66
  go_wp2_with (refine (bit_any n _).mono ?_; rintro e w' ⟨rfl, rfl⟩)
  go_ret
  refine ⟨?_, rfl⟩
  show Ending.returned (.bool (bits BinOp.and IntKind.u32 (s : Int) (bitN n : Int) != 0)) = _
  rw [HU.out]
  congr 2
  rw [Bool.eq_iff_iff]
  simp
end Go.Proofs.YteflgdnekflbbaaDoor
