/- FlagsPlays: for every row of calls (any kinds, any flags), the law returns true and its argument reads as before. No condition. -/
import Derived.Test.YtgonnddgljgghaaLaw
import Derived.Test.YtgonnddgljgghaaFlagsPlays
namespace Go.Proofs.Ytgonnddgljgghaa
open Go.ChangeShapes Go.WideShapes Go.ChangeAt Go.RowKit Go.Deep

set_option maxRecDepth 100000 in
theorem flagsPlays_lifted (os : Os) (started : os.Started) (H : Type) (enc : TypeId × Value → H) :
    ReturnsInHanded {} Try.checked os 3 .any (Rows.flagsPlaysSpec.pre6 enc Try.prog Try.f3 [] false) (Rows.flagsPlaysSpec.post enc Try.prog Try.f3 false true false false) := by
  refine law_lifted (C := Try.checked) 4 own started (by kernel_rfl) Try.func3
    (ChangeSpec.witness6 (enc := enc) (C := Try.checked) false ⟨#[], #[.slice none 0 0], []⟩ 8 (by kernel_rfl) (by kernel_rfl) (by kernel_rfl) (by kernel_rfl))
    rfl (fun ds h => by match ds, h with | [d], _ => rfl) rfl Try.underlying4 laidOut
    (by rw [Try.params3]; intro t ht; simp only [List.mem_cons, List.not_mem_nil, or_false] at ht; rcases ht with rfl; exact ⟨by kernel_rfl, of_decide_eq_true (by kernel_rfl)⟩) ?_
  intro W base args ds ps hA0 hval
  have hA : DataW.TrodAll enc Try.prog W 0 (fun _ => true) true Try.f3.params.toList args.toList ds ps := hA0
  rw [Try.params3] at hA hval
  obtain ⟨v, d, rfl, rfl, fuel, h0⟩ := trodAll_one hA
  obtain ⟨a0, len0, cap0, rfl⟩ := okWide_slice Try.underlying22 (hval 0 22 v rfl rfl)
  obtain ⟨A, n, c, xs, e, h1, h2, h3, h4, h5⟩ := rd_plain (cells := fun o : Int × Nat => [.int .i64 o.1, .int .u32 (o.2 : Int)]) (ok := fun o => o.2 < 4294967296) (size := 2) Try.underlying22 (by kernel_rfl) (by decide)
    (fun n cs x h => by
      obtain ⟨m, l0, l1, y0, y1, rfl, _, _, g0, g1⟩ := rd_struct2 (z0 := 1) (z1 := 1) Try.underlying31 (by kernel_rfl) (by kernel_rfl) (by kernel_rfl) rfl rfl h
      obtain ⟨k, rfl, _, _⟩ := DataW.trod_int Try.underlying3 g0
      obtain ⟨l, rfl, _, wl⟩ := DataW.trod_int Try.underlying25 g1
      obtain ⟨m, rfl, hm⟩ := wf_bounds_u32 wl
      exact ⟨(k, m), rfl, hm⟩) h0
  simp only [Value.cells, List.cons.injEq, and_true] at e
  rw [e]
  exact flagsPlays_any A n c xs W h4 h5 h3 (Nat.le_trans h1 h2)

theorem flagsPlays_holds : Rows.FlagsPlaysSaid :=
  OpenClaim.holds_of_wide 3 Try.f3 rfl rfl rfl rfl rfl rfl rfl ⟨rfl, rfl, rfl, rfl, rfl⟩ rfl rfl rfl rfl rfl (by kernel_rfl) Try.func3 (by kernel_rfl)
    (of_decide_eq_true (by kernel_rfl)) (by unfold Func.isWrapper; first | (rw [if_pos (by decide +kernel)]; kernel_rfl) | (rw [if_neg (by decide +kernel)]; exact ⟨rfl, rfl⟩))
    (fun os started H enc _ => flagsPlays_lifted os started H enc)
#print axioms flagsPlays_holds

end Go.Proofs.Ytgonnddgljgghaa
