/- The journal of the law's own trial, in plain lists; a fresh device's journal. No condition. -/
import Derived.Test.YteanpgkonhdbpaaJrMisc
import Derived.Test.YteanpgkonhdbpaaJrHelp
namespace Go.Proofs.Yteanpgkonhdbpaa
open Go.RowKit

theorem progsJ_ok : ∀ (vs : List Nat) {d : Dev} (_ : d.Ok) (s q : Nat) (_ : ∀ v ∈ vs, v < 4294967296), (progsJ d s q vs).1.Ok
  | [], _, h, _, _, _ => h
  | v :: l, d, h, s, q, hv => by
    have h1 := progS_ok h (s : Int) (q : Int) v (hv v (by simp))
    unfold progsJ
    split
    · exact h1
    · exact progsJ_ok l h1 s (q + 1) fun x hx => hv x (by simp [hx])
theorem addJ_ok {d : Dev} (h : d.Ok) (j : JS) {w : Nat} (hw : w < 4294967296) : (addJ d j w).1.Ok := by
  unfold addJ
  by_cases hm : 1073741824 < j.next
  · rw [if_pos hm]; exact h
  rw [if_neg hm]
  have hf : ∀ v ∈ fourJ w j.next, v < 4294967296 := four_lt hw (by omega)
  by_cases ha : d.nw / 4 ≤ j.at_
  · rw [if_pos ha]
    have he := eraseS_ok h ((j.base + (j.sector + 1) % j.many : Nat) : Int)
    split
    · exact progsJ_ok _ he _ _ hf
    · exact he
  · rw [if_neg ha]
    exact progsJ_ok _ h _ _ hf

/-- The trial's device, and what is left behind its two additions. -/
noncomputable def d0A : Dev := newD 2 16 9
noncomputable def j0A : JS := openedJ d0A 0 2
noncomputable def r1A : Dev × JS × Int := addJ d0A j0A 7
noncomputable def r2A : Dev × JS × Int := addJ r1A.1 r1A.2.1 8
theorem d0A_ok : d0A.Ok := newD_ok 2 16 9 (by decide) (by decide) (by decide) (by decide) (by decide)
theorem r1A_ok : r1A.1.Ok := addJ_ok d0A_ok j0A (by decide)
theorem r2A_ok : r2A.1.Ok := addJ_ok r1A_ok r1A.2.1 (by decide)
theorem j0A_is : j0A = ⟨0, 2, 0, 0, 1⟩ := by kernel_rfl
theorem r1A_j : r1A.2.1 = ⟨0, 2, 0, 1, 2⟩ := by kernel_rfl
theorem r1A_e : r1A.2.2 = 0 := by kernel_rfl
theorem r2A_j : r2A.2.1 = ⟨0, 2, 0, 2, 3⟩ := by kernel_rfl
theorem r2A_e : r2A.2.2 = 0 := by kernel_rfl
theorem r2A_ns : r2A.1.ns = 2 := by kernel_rfl
theorem r2A_nw : r2A.1.nw = 16 := by kernel_rfl
theorem r2A_all : sortE (entsJ (ownW r2A.1 0) 2 4) = [(1, 7), (2, 8)] := by kernel_rfl
end Go.Proofs.Yteanpgkonhdbpaa
