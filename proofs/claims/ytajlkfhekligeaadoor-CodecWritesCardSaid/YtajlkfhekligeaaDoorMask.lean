/- Sets of numbers as bits: what mask's functions answer. No condition. -/
import Derived.Test.YtajlkfhekligeaaDoorRows
import Derived.Test.YtajlkfhekligeaaDoorStop
import Derived.Test.YtajlkfhekligeaaDoorEqI
import Derived.WalkKit
import Derived.WalkSpells
import Derived.WalkLawsBesides
namespace Go.Proofs.YtajlkfhekligeaaDoor
open Go.RowKit

def bitN (n : Int) : Nat := if 0 ≤ n ∧ n ≤ 31 then 2 ^ n.toNat else 0
theorem bitN_lt (n : Int) : bitN n < 4294967296 := by
  unfold bitN
  split
  · have : 2 ^ n.toNat ≤ 2 ^ 31 := Nat.pow_le_pow_right (by decide) (by omega)
    omega
  · omega
theorem bitN_nat {k : Nat} (h : k < 32) : bitN (k : Int) = 2 ^ k := by unfold bitN; rw [if_pos (by omega), Int.toNat_natCast]
theorem pow_mod32 {k : Nat} (h : k < 32) : (2 : Int) ^ k % 4294967296 = ((2 ^ k : Nat) : Int) := by
  have h1 : 2 ^ k ≤ 2 ^ 31 := Nat.pow_le_pow_right (by decide) (by omega)
  have e : ((2 : Int) ^ k) = ((2 ^ k : Nat) : Int) := by norm_cast
  rw [e]
  exact Int.emod_eq_of_lt (Int.natCast_nonneg _) (by omega)

set_option maxRecDepth 100000 in
theorem bit_any (n : Int) (w : World) : Calls Tryd.prog 57 #[.int .i64 n] w fun e w' => e = .returned (.int .u32 (bitN n : Int)) ∧ w = w' := by
  have hc : n < 0 ∨ 31 < n ∨ (0 ≤ n ∧ n ≤ 31) := by omega
  rcases hc with h | h | ⟨h1, h2⟩
  · have HB : Hid (bitN n = 0) := by show _ = _; unfold bitN; rw [if_neg (by omega)]
    go_enter Tryd.func57, Tryd.ntmps57
    go_wp2
    go_ret
    exact ⟨by rw [HB.out]; rfl, rfl⟩
  · have HB : Hid (bitN n = 0) := by show _ = _; unfold bitN; rw [if_neg (by omega)]
    have h0 : 0 ≤ n := by omega
    go_enter Tryd.func57, Tryd.ntmps57
    go_wp2
    go_ret
    exact ⟨by rw [HB.out]; rfl, rfl⟩
  · obtain ⟨k, rfl⟩ : ∃ k : Nat, n = (k : Int) := ⟨n.toNat, by omega⟩
    have HB := Lib.hid (bitN_nat (k := k) (by omega))
    have HP := Lib.hid (pow_mod32 (k := k) (by omega))
    go_enter Tryd.func57, Tryd.ntmps57
    go_wp2
    go_ret
    exact ⟨by rw [HB.out, ← HP.out]; rfl, rfl⟩

set_option maxRecDepth 100000 in
theorem with_any (s : Nat) (n : Int) (w : World) (hs : s < 4294967296) : Calls Tryd.prog 27 #[.int .u32 (s : Int), .int .i64 n] w fun e w' => e = .returned (.int .u32 ((s ||| bitN n : Nat) : Int)) ∧ w = w' := by
  have hb := bitN_lt n
  have hu := u32_or_nat s (bitN n) hs hb
  have HU : Hid (_ = _) := hu
  clear hu
  go_enter Tryd.func27, Tryd.ntmps27
  go_wp2_with (refine (bit_any n _).mono ?_; rintro e w' ⟨rfl, rfl⟩)
  go_ret
  exact ⟨by rw [← HU.out]; rfl, rfl⟩
set_option maxRecDepth 100000 in
theorem has_any (s : Nat) (n : Int) (w : World) (hs : s < 4294967296) : Calls Tryd.prog 118 #[.int .u32 (s : Int), .int .i64 n] w fun e w' => e = .returned (.bool (decide (s &&& bitN n ≠ 0))) ∧ w = w' := by
  have hb := bitN_lt n
  have hu := u32_and_nat s (bitN n) hs hb
  have HU : Hid (_ = _) := hu
  clear hu
  go_enter Tryd.func118, Tryd.ntmps118
  go_wp2_with (refine (bit_any n _).mono ?_; rintro e w' ⟨rfl, rfl⟩)
  go_ret
  refine ⟨?_, rfl⟩
  show Ending.returned (.bool (bits BinOp.and IntKind.u32 (s : Int) (bitN n : Int) != 0)) = _
  rw [HU.out]
  congr 2
  rw [Bool.eq_iff_iff]
  simp
end Go.Proofs.YtajlkfhekligeaaDoor
