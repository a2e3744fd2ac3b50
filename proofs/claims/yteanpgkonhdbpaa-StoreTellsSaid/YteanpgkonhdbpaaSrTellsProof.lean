/- StoreTells: for every image and row of calls the law returns true and its arguments read as before. No condition. -/
import Derived.Test.YteanpgkonhdbpaaLaw
import Derived.Test.YteanpgkonhdbpaaSrTells
namespace Go.Proofs.Yteanpgkonhdbpaa
open Go.ChangeShapes Go.WideShapes Go.ChangeAt Go.RowKit Go.Deep

set_option maxRecDepth 100000 in
theorem storeTells_lifted (os : Os) (started : os.Started) (H : Type) (enc : TypeId × Value → H) :
    ReturnsInHanded {} Try.checked os 9 .any (Rows.storeTellsSpec.pre6 enc Try.prog Try.f9 [] false) (Rows.storeTellsSpec.post enc Try.prog Try.f9 false true false false) := by
  refine law_lifted (C := Try.checked) 4 own started (by kernel_rfl) Try.func9
    (ChangeSpec.witness6 (enc := enc) (C := Try.checked) false ⟨#[], #[.slice none 0 0, .slice none 0 0], []⟩ 8 (by kernel_rfl) (by kernel_rfl) (by kernel_rfl) (by kernel_rfl))
    rfl (fun ds h => by match ds, h with | [d0, d1], _ => rfl) rfl Try.underlying4 laidOut
    (by rw [Try.params9]; intro t ht; simp only [List.mem_cons, List.not_mem_nil, or_false] at ht; rcases ht with rfl | rfl <;> exact ⟨by kernel_rfl, of_decide_eq_true (by kernel_rfl)⟩) ?_
  intro W base args ds ps hA0 hval
  have hA : DataW.TrodAll enc Try.prog W 0 (fun _ => true) true Try.f9.params.toList args.toList ds ps := hA0
  rw [Try.params9] at hA hval
  obtain ⟨v0, v1, d0, d1, p0, p1, hargs, rfl, rfl, h0, h1⟩ := trodAll_two hA
  subst hargs
  obtain ⟨f0, h0⟩ := h0
  obtain ⟨a0, len0, cap0, rfl⟩ := okWide_slice Try.underlying54 (hval 0 54 v0 rfl rfl)
  obtain ⟨A0, c0, ms0, e0, H0⟩ := rd_words h0
  simp only [Value.cells, List.cons.injEq, and_true] at e0
  rw [e0]
  obtain ⟨f1, h1⟩ := h1
  obtain ⟨a1, len1, cap1, rfl⟩ := okWide_slice Try.underlying95 (hval 1 95 v1 rfl rfl)
  obtain ⟨A1, c1, ms1, e1, H1⟩ := rd_sops h1
  simp only [Value.cells, List.cons.injEq, and_true] at e1
  rw [e1]
  exact stells_any A0 c0 ms0 A1 c1 ms1 W H0 H1

theorem storeTells_holds : Rows.StoreTellsSaid :=
  OpenClaim.holds_of_wide 9 Try.f9 rfl rfl rfl rfl rfl rfl rfl ⟨rfl, rfl, rfl, rfl, rfl⟩ rfl rfl rfl rfl rfl (by kernel_rfl) Try.func9 (by kernel_rfl)
    (of_decide_eq_true (by kernel_rfl)) (by unfold Func.isWrapper; first | (rw [if_pos (by decide +kernel)]; kernel_rfl) | (rw [if_neg (by decide +kernel)]; exact ⟨rfl, rfl⟩))
    (fun os started H enc _ => storeTells_lifted os started H enc)
#print axioms storeTells_holds
end Go.Proofs.Yteanpgkonhdbpaa
