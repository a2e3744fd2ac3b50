/- TallyCounts: for every two rows of events and every kind the law returns true and its arguments read as before. No condition. -/
import Derived.Test.YtgonnddgljgghaaTallyLaw
namespace Go.Proofs.Ytgonnddgljgghaa
open Go.ChangeShapes Go.WideShapes Go.ChangeAt Go.RowKit Go.Deep

section
variable {H : Type} {enc : TypeId × Value → H} {w : World} {base : Nat} {spare : Nat → Bool} {held : Bool}
set_option maxRecDepth 100000 in
theorem rd_event {n : Nat} {cs : List Value} {x : DataW H × List MemPlace} (h : DataW.trod enc Try.prog w base spare held n 101 cs = some x) : ∃ e : Ev, cs = evCells e ∧ True := by
  obtain ⟨xs, m, _, _, hlen, hxl, hf⟩ := DataW.trod_struct Try.underlying101 h
  have hC : Try.prog.cellsOf 101 = 4 := by kernel_rfl
  have c1 : Try.prog.cellsOf 3 = 1 := by kernel_rfl
  have c2 : Try.prog.cellsOf 59 = 1 := by kernel_rfl
  rw [hC] at hlen
  match cs, hlen, xs, hxl with
  | [v0, v1, v2, v3], _, [y0, y1, y2, y3], _ =>
    have h0 : DataW.trod enc Try.prog w base spare held m 3 (List.take (Try.prog.cellsOf 3) (List.drop 0 [v0, v1, v2, v3])) = some y0 := hf 0 _ rfl
    rw [c1] at h0
    have h1 : DataW.trod enc Try.prog w base spare held m 59 (List.take (Try.prog.cellsOf 59) (List.drop 1 [v0, v1, v2, v3])) = some y1 := hf 1 _ rfl
    rw [c2] at h1
    have h2 : DataW.trod enc Try.prog w base spare held m 3 (List.take (Try.prog.cellsOf 3) (List.drop 2 [v0, v1, v2, v3])) = some y2 := hf 2 _ rfl
    rw [c1] at h2
    have h3 : DataW.trod enc Try.prog w base spare held m 3 (List.take (Try.prog.cellsOf 3) (List.drop 3 [v0, v1, v2, v3])) = some y3 := hf 3 _ rfl
    rw [c1] at h3
    obtain ⟨k0, e0, _, _⟩ := DataW.trod_int Try.underlying3 h0
    obtain ⟨k1, e1, _, _⟩ := DataW.trod_int Try.underlying59 h1
    obtain ⟨k2, e2, _, _⟩ := DataW.trod_int Try.underlying3 h2
    obtain ⟨k3, e3, _, _⟩ := DataW.trod_int Try.underlying3 h3
    obtain rfl : v0 = .int .i64 k0 := by simpa using e0
    obtain rfl : v1 = .int .i64 k1 := by simpa using e1
    obtain rfl : v2 = .int .i64 k2 := by simpa using e2
    obtain rfl : v3 = .int .i64 k3 := by simpa using e3
    exact ⟨⟨k0, k1, k2, k3⟩, rfl, trivial⟩
end

set_option maxRecDepth 100000 in
theorem tallyCounts_lifted (os : Os) (started : os.Started) (H : Type) (enc : TypeId × Value → H) :
    ReturnsInHanded {} Try.checked os 7 .any (Rows.tallyCountsSpec.pre6 enc Try.prog Try.f7 [] false) (Rows.tallyCountsSpec.post enc Try.prog Try.f7 false true false false) := by
  refine law_lifted (C := Try.checked) 4 own started (by kernel_rfl) Try.func7
    (ChangeSpec.witness6 (enc := enc) (C := Try.checked) false ⟨#[], #[.slice none 0 0, .slice none 0 0, .int .i64 0], []⟩ 8 (by kernel_rfl) (by kernel_rfl) (by kernel_rfl) (by kernel_rfl))
    rfl (fun ds h => by match ds, h with | [d, e, f], _ => rfl) rfl Try.underlying4 laidOut
    (by rw [Try.params7]; intro t ht; simp only [List.mem_cons, List.not_mem_nil, or_false] at ht; rcases ht with rfl | rfl | rfl <;> exact ⟨by kernel_rfl, of_decide_eq_true (by kernel_rfl)⟩) ?_
  intro W base args ds ps hA0 hval
  have hA : DataW.TrodAll enc Try.prog W 0 (fun _ => true) true Try.f7.params.toList args.toList ds ps := hA0
  rw [Try.params7] at hA hval
  obtain ⟨v0, v1, v2, d0, d1, d2, p0, p1, p2, hargs, rfl, rfl, ⟨f0, h0⟩, ⟨f1, h1⟩, h2⟩ := trodAll_three hA
  subst hargs
  obtain ⟨a0, len0, cap0, rfl⟩ := okWide_slice Try.underlying58 (hval 0 58 v0 rfl rfl)
  obtain ⟨a1, len1, cap1, rfl⟩ := okWide_slice Try.underlying58 (hval 1 58 v1 rfl rfl)
  obtain ⟨q, rfl, rfl, rfl, _⟩ := open_int Try.underlying59 (hval 2 59 v2 rfl rfl) h2
  obtain ⟨A, n, c, xs, e, g1, g2, g3, g4, g5⟩ := rd_plain (cells := evCells) (ok := fun _ => True) (size := 4) Try.underlying58 (by kernel_rfl) (by decide) (fun n cs x h => rd_event h) h0
  obtain ⟨A', n', c', xs', e', g1', g2', g3', g4', g5'⟩ := rd_plain (cells := evCells) (ok := fun _ => True) (size := 4) Try.underlying58 (by kernel_rfl) (by decide) (fun n cs x h => rd_event h) h1
  simp only [Value.cells, List.cons.injEq, and_true] at e e'
  rw [e, e']
  exact tallyCounts_any A A' n n' c c' xs xs' q W g4 g3 (Nat.le_trans g1 g2) g4' g3' (Nat.le_trans g1' g2')

theorem tallyCounts_holds : Rows.TallyCountsSaid :=
  OpenClaim.holds_of_wide 7 Try.f7 rfl rfl rfl rfl rfl rfl rfl ⟨rfl, rfl, rfl, rfl, rfl⟩ rfl rfl rfl rfl rfl (by kernel_rfl) Try.func7 (by kernel_rfl)
    (of_decide_eq_true (by kernel_rfl)) (by unfold Func.isWrapper; first | (rw [if_pos (by decide +kernel)]; kernel_rfl) | (rw [if_neg (by decide +kernel)]; exact ⟨rfl, rfl⟩))
    (fun os started H enc _ => tallyCounts_lifted os started H enc)
#print axioms tallyCounts_holds
end Go.Proofs.Ytgonnddgljgghaa
