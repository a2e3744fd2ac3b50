/- What the reference's function List answers, for every set. No condition. -/
import Derived.Test.YteanpgkonhdbpaaRef03I
namespace Go.Proofs.Yteanpgkonhdbpaa
open Go.RowKit

/-- The numbers below k that are in the set s, rising. -/
def listN (s : Nat) (k : Nat) : List Int := ((List.range k).filter (fun n => s.testBit n)).map Int.ofNat
theorem listN_le (s k : Nat) : (listN s k).length ≤ k := by
  unfold listN
  have := List.length_filter_le (fun n => s.testBit n) (List.range k)
  simpa using this
theorem listN_zero (s : Nat) : listN s 0 = [] := rfl
theorem listN_succ (s k : Nat) : listN s (k + 1) = if s.testBit k then listN s k ++ [(k : Int)] else listN s k := by
  unfold listN
  rw [List.range_succ, List.filter_append, List.map_append]
  by_cases h : s.testBit k <;> simp [h]
theorem testBit_tmod (s k : Nat) : ((((s : Int) / 2 ^ k).tmod 2 == 1) = true) ↔ s.testBit k = true := by
  have e : ((s : Int) / 2 ^ k).tmod 2 = ((s / 2 ^ k % 2 : Nat) : Int) := by
    rw [Int.tmod_eq_emod_of_nonneg (Int.ediv_nonneg (by omega) (by have : (0 : Int) < 2 ^ k := Int.pow_pos (by decide); omega))]
    norm_cast
  rw [e, Nat.testBit_eq_decide_div_mod_eq]
  simp only [beq_iff_eq, decide_eq_true_eq]
  constructor <;> intro h <;> omega
theorem testBit_tmod' (s k : Nat) : ((((s : Int) / 2 ^ k).tmod 2 == 1) = false) ↔ s.testBit k = false := by
  rw [← Bool.not_eq_true, ← Bool.not_eq_true, testBit_tmod]

end Go.Proofs.Yteanpgkonhdbpaa
