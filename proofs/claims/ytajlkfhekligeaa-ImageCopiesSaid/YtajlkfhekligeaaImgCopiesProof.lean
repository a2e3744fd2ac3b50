/- ImageCopies: for every two images the law returns true and its arguments read as before. No condition. -/
import Derived.Test.YtajlkfhekligeaaImgOpen
import Derived.Test.YtajlkfhekligeaaImgCopies
namespace Go.Proofs.Ytajlkfhekligeaa
open Go.ChangeShapes Go.WideShapes Go.ChangeAt Go.RowKit Go.Deep

set_option maxRecDepth 100000 in
theorem imageCopies_lifted (os : Os) (started : os.Started) (H : Type) (enc : TypeId × Value → H) :
    ReturnsInHanded {} Try.checked os 4 .any (Rows.imageCopiesSpec.pre6 enc Try.prog Try.f4 [] false) (Rows.imageCopiesSpec.post enc Try.prog Try.f4 false true false false) := by
  refine law_lifted (C := Try.checked) 4 own started (by kernel_rfl) Try.func4
    (ChangeSpec.witness6 (enc := enc) (C := Try.checked) false ⟨#[], #[.agg #[.int .i64 0, .slice none 0 0, .slice none 0 0, .slice none 0 0], .agg #[.int .i64 0, .slice none 0 0, .slice none 0 0, .slice none 0 0]], []⟩ 8 (by kernel_rfl) (by kernel_rfl) (by kernel_rfl) (by kernel_rfl))
    rfl (fun ds h => by match ds, h with | [d, e], _ => rfl) rfl Try.underlying4 laidOut
    (by rw [Try.params4]; intro t ht; simp only [List.mem_cons, List.not_mem_nil, or_false] at ht; rcases ht with rfl | rfl <;> exact ⟨by kernel_rfl, of_decide_eq_true (by kernel_rfl)⟩) ?_
  intro W base args ds ps hA0 hval
  have hA : DataW.TrodAll enc Try.prog W 0 (fun _ => true) true Try.f4.params.toList args.toList ds ps := hA0
  rw [Try.params4] at hA hval
  obtain ⟨v0, v1, d0, d1, p0, p1, hargs, rfl, rfl, ⟨f0, h0⟩, ⟨f1, h1⟩⟩ := trodAll_two hA
  subst hargs
  obtain ⟨cs, rfl, hsz⟩ := okWide_struct Try.underlying26 (hval 0 26 v0 rfl rfl)
  obtain ⟨cs2, rfl, hsz2⟩ := okWide_struct Try.underlying26 (hval 1 26 v1 rfl rfl)
  obtain ⟨v, x, hcs, hat⟩ := rd_image h0
  obtain ⟨v', x', hcs', hat'⟩ := rd_image h1
  have e1 : cs = (imgCells v x).toArray := by
    have : cs.toList = imgCells v x := hcs
    rw [← this]
  have e2 : cs2 = (imgCells v' x').toArray := by
    have : cs2.toList = imgCells v' x' := hcs'
    rw [← this]
  rw [e1, e2]
  exact imageCopies_any v v' x x' W hat hat'

theorem imageCopies_holds : Rows.ImageCopiesSaid :=
  OpenClaim.holds_of_wide 4 Try.f4 rfl rfl rfl rfl rfl rfl rfl ⟨rfl, rfl, rfl, rfl, rfl⟩ rfl rfl rfl rfl rfl (by kernel_rfl) Try.func4 (by kernel_rfl)
    (of_decide_eq_true (by kernel_rfl)) (by unfold Func.isWrapper; first | (rw [if_pos (by decide +kernel)]; kernel_rfl) | (rw [if_neg (by decide +kernel)]; exact ⟨rfl, rfl⟩))
    (fun os started H enc _ => imageCopies_lifted os started H enc)
#print axioms imageCopies_holds
end Go.Proofs.Ytajlkfhekligeaa
