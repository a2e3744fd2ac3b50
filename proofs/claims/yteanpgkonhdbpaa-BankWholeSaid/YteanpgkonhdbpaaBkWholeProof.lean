/- BankWhole: for every row of calls the law returns true and its argument reads as before. No condition. -/
import Derived.Test.YteanpgkonhdbpaaLaw
import Derived.Test.YteanpgkonhdbpaaBkBeg
import Derived.Test.YteanpgkonhdbpaaBkWhole
namespace Go.Proofs.Yteanpgkonhdbpaa
open Go.ChangeShapes Go.WideShapes Go.ChangeAt Go.RowKit Go.Deep

set_option maxRecDepth 100000 in
theorem bankWhole_lifted (os : Os) (started : os.Started) (H : Type) (enc : TypeId × Value → H) :
    ReturnsInHanded {} Try.checked os 6 .any (Rows.bankWholeSpec.pre6 enc Try.prog Try.f6 [] false) (Rows.bankWholeSpec.post enc Try.prog Try.f6 false true false false) := by
  refine law_lifted (C := Try.checked) 4 own started (by kernel_rfl) Try.func6
    (ChangeSpec.witness6 (enc := enc) (C := Try.checked) false ⟨#[], #[.slice none 0 0], []⟩ 8 (by kernel_rfl) (by kernel_rfl) (by kernel_rfl) (by kernel_rfl))
    rfl (fun ds h => by match ds, h with | [d], _ => rfl) rfl Try.underlying4 laidOut
    (by rw [Try.params6]; intro t ht; simp only [List.mem_cons, List.not_mem_nil, or_false] at ht; rcases ht with rfl; exact ⟨by kernel_rfl, of_decide_eq_true (by kernel_rfl)⟩) ?_
  intro W base args ds ps hA0 hval
  have hA : DataW.TrodAll enc Try.prog W 0 (fun _ => true) true Try.f6.params.toList args.toList ds ps := hA0
  rw [Try.params6] at hA hval
  obtain ⟨v, d, hargs, rfl, f, h⟩ := trodAll_one hA
  subst hargs
  obtain ⟨a1, len1, cap1, rfl⟩ := okWide_slice Try.underlying73 (hval 0 73 v rfl rfl)
  obtain ⟨A, c, ms, e, hm⟩ := rd_bops h
  simp only [Value.cells, List.cons.injEq, and_true] at e
  rw [e]
  exact whole_any08 A c ms W hm

theorem bankWhole_holds : Rows.BankWholeSaid :=
  OpenClaim.holds_of_wide 6 Try.f6 rfl rfl rfl rfl rfl rfl rfl ⟨rfl, rfl, rfl, rfl, rfl⟩ rfl rfl rfl rfl rfl (by kernel_rfl) Try.func6 (by kernel_rfl)
    (of_decide_eq_true (by kernel_rfl)) (by unfold Func.isWrapper; first | (rw [if_pos (by decide +kernel)]; kernel_rfl) | (rw [if_neg (by decide +kernel)]; exact ⟨rfl, rfl⟩))
    (fun os started H enc _ => bankWhole_lifted os started H enc)
#print axioms bankWhole_holds
end Go.Proofs.Yteanpgkonhdbpaa
