/- The entries that a device's words say, as the law gathers them: in plain lists. No condition. -/
import Derived.Test.YteanpgkonhdbpaaJrAll
import Derived.Test.YteanpgkonhdbpaaJrSort
namespace Go.Proofs.Yteanpgkonhdbpaa
open Go.RowKit

def preJ (W : Wds) (s a : Nat) : List (Nat × Nat) := (List.range a).filterMap (entJ W s)
theorem preJ_all (W : Wds) (s K : Nat) : (sectE W s K).map (·.2) = preJ W s K := by
  unfold sectE preJ
  rw [List.map_filterMap]
  congr 1
  funext a
  cases entJ W s a <;> rfl
def accJ (W : Wds) (K s a : Nat) : List (Nat × Nat) := (entsJ W s K ++ preJ W s a).foldl insE []
theorem accJ_zero (W : Wds) (K : Nat) : accJ W K 0 0 = [] := rfl
theorem accJ_next (W : Wds) (K s : Nat) : accJ W K (s + 1) 0 = accJ W K s K := by
  unfold accJ
  rw [entsJ_snoc, preJ_all]
  simp [preJ]
theorem accJ_end (W : Wds) (K m : Nat) : accJ W K m 0 = sortE (entsJ W m K) := by
  unfold accJ
  simp [preJ, sortE]
theorem preJ_succ (W : Wds) (s a : Nat) : preJ W s (a + 1) = preJ W s a ++ (entJ W s a).toList := by
  unfold preJ
  rw [List.range_succ, List.filterMap_append]
  have : List.filterMap (entJ W s) [a] = (entJ W s a).toList := by cases h : entJ W s a <;> simp [h]
  rw [this]
theorem accJ_none {W : Wds} {K s a : Nat} (h : entJ W s a = none) : accJ W K s (a + 1) = accJ W K s a := by
  unfold accJ
  rw [preJ_succ, h]
  simp
theorem accJ_some {W : Wds} {K s a : Nat} {e : Nat × Nat} (h : entJ W s a = some e) : accJ W K s (a + 1) = insE (accJ W K s a) e := by
  unfold accJ
  rw [preJ_succ, h, ← List.append_assoc, List.foldl_append]
  rfl
theorem accJ_sorted (W : Wds) (K s a : Nat) : SortedE (accJ W K s a) := sort_sorted _
theorem insE_len (e : Nat × Nat) : ∀ L : List (Nat × Nat), (insE L e).length ≤ L.length + 1
  | [] => by simp [insE]
  | x :: l => by
    have := insE_len e l
    unfold insE
    split
    · simp only [List.length_cons]; omega
    · split
      · simp only [List.length_cons]; omega
      · simp only [List.length_cons]; omega
theorem fold_len : ∀ (E L : List (Nat × Nat)), (E.foldl insE L).length ≤ L.length + E.length
  | [], L => by simp
  | e :: E, L => by
    rw [List.foldl_cons]
    have h1 := fold_len E (insE L e)
    have h2 := insE_len e L
    simp
    omega
theorem preJ_len (W : Wds) (s a : Nat) : (preJ W s a).length ≤ a := by
  unfold preJ
  have := List.length_filterMap_le (entJ W s) (List.range a)
  simpa using this
theorem entsJ_len (W : Wds) (K : Nat) : ∀ m, (entsJ W m K).length ≤ m * K
  | 0 => by simp [entsJ]
  | m + 1 => by
    rw [entsJ_snoc, preJ_all, List.length_append]
    have h1 := entsJ_len W K m
    have h2 := preJ_len W m K
    rw [Nat.succ_mul]
    omega
theorem accJ_len (W : Wds) (K s a : Nat) : (accJ W K s a).length ≤ s * K + a := by
  have h := fold_len (entsJ W s K ++ preJ W s a) []
  rw [List.length_append] at h
  have h1 := entsJ_len W K s
  have h2 := preJ_len W s a
  unfold accJ
  simp only [List.length_nil] at h
  omega
end Go.Proofs.Yteanpgkonhdbpaa
