/- FlashBits: for all sizes and every row of calls the law returns true and its arguments read as before. No condition. -/
import Derived.Test.YtgonnddgljgghaaLaw
import Derived.Test.YtgonnddgljgghaaFlashBits
namespace Go.Proofs.Ytgonnddgljgghaa
open Go.ChangeShapes Go.WideShapes Go.ChangeAt Go.RowKit Go.Deep

theorem flashBits_any (s q l : Int) (A : Option Addr) (n c : Nat) (xs : List FOp) (w : World) (hx : xs.length = n) (hr : Reads w 4 A n (fopRow xs)) (hxs : ∀ o ∈ xs, o.w < 4294967296 ∧ o.word ≤ 9223372036854775807) (hm : n ≤ maxLen) :
    Calls Try.prog 8 #[szV s q l, .slice A n c] w fun e w' => e = .returned (.bool true) ∧ Keep [] w w' := by
  by_cases h : 60 < n ∨ s < 1 ∨ 8 < s ∨ q < 1 ∨ 30 < q
  · exact flashBits_no s q l A n c w hm h
  · obtain ⟨s', rfl⟩ : ∃ k : Nat, s = (k : Int) := ⟨s.toNat, by omega⟩
    obtain ⟨q', rfl⟩ : ∃ k : Nat, q = (k : Int) := ⟨q.toNat, by omega⟩
    exact flashBits_yes s' q' l A n c xs w (by omega) hx hr hxs (by omega) (by omega) (by omega) (by omega)

section
variable {H : Type} {enc : TypeId × Value → H} {w : World} {base : Nat} {spare : Nat → Bool} {held : Bool}
set_option maxRecDepth 100000 in
theorem rd_fopB {n : Nat} {cs : List Value} {x : DataW H × List MemPlace} (h : DataW.trod enc Try.prog w base spare held n 85 cs = some x) : ∃ o : FOp, cs = fopCells o ∧ (o.w < 4294967296 ∧ o.word ≤ 9223372036854775807) := by
  obtain ⟨xs, m, _, _, hlen, hxl, hf⟩ := DataW.trod_struct Try.underlying85 h
  have hC : Try.prog.cellsOf 85 = 4 := by kernel_rfl
  have c1 : Try.prog.cellsOf 3 = 1 := by kernel_rfl
  have c2 : Try.prog.cellsOf 24 = 1 := by kernel_rfl
  rw [hC] at hlen
  match cs, hlen, xs, hxl with
  | [v0, v1, v2, v3], _, [y0, y1, y2, y3], _ =>
    have h0 : DataW.trod enc Try.prog w base spare held m 3 (List.take (Try.prog.cellsOf 3) (List.drop 0 [v0, v1, v2, v3])) = some y0 := hf 0 _ rfl
    rw [c1] at h0
    have h1 : DataW.trod enc Try.prog w base spare held m 3 (List.take (Try.prog.cellsOf 3) (List.drop 1 [v0, v1, v2, v3])) = some y1 := hf 1 _ rfl
    rw [c1] at h1
    have h2 : DataW.trod enc Try.prog w base spare held m 3 (List.take (Try.prog.cellsOf 3) (List.drop 2 [v0, v1, v2, v3])) = some y2 := hf 2 _ rfl
    rw [c1] at h2
    have h3 : DataW.trod enc Try.prog w base spare held m 24 (List.take (Try.prog.cellsOf 24) (List.drop 3 [v0, v1, v2, v3])) = some y3 := hf 3 _ rfl
    rw [c2] at h3
    obtain ⟨k0, e0, _, _⟩ := DataW.trod_int Try.underlying3 h0
    obtain ⟨k1, e1, _, _⟩ := DataW.trod_int Try.underlying3 h1
    obtain ⟨k2, e2, _, w2⟩ := DataW.trod_int Try.underlying3 h2
    obtain ⟨k3, e3, _, w3⟩ := DataW.trod_int Try.underlying24 h3
    obtain ⟨m3, rfl, hm3⟩ := wf_bounds_u32 w3
    obtain rfl : v0 = .int .i64 k0 := by simpa using e0
    obtain rfl : v1 = .int .i64 k1 := by simpa using e1
    obtain rfl : v2 = .int .i64 k2 := by simpa using e2
    obtain rfl : v3 = .int .u32 m3 := by simpa using e3
    exact ⟨⟨k0, k1, k2, m3⟩, rfl, hm3, (bounds_i64 w2).2⟩
set_option maxRecDepth 100000 in
theorem rd_sizesB {n : Nat} {cs : List Value} {x : DataW H × List MemPlace} (h : DataW.trod enc Try.prog w base spare held n 71 cs = some x) : ∃ s q l : Int, cs = [.int .i64 s, .int .i64 q, .int .i64 l] := by
  obtain ⟨xs, m, _, _, hlen, hxl, hf⟩ := DataW.trod_struct Try.underlying71 h
  have hC : Try.prog.cellsOf 71 = 3 := by kernel_rfl
  have c1 : Try.prog.cellsOf 3 = 1 := by kernel_rfl
  rw [hC] at hlen
  match cs, hlen, xs, hxl with
  | [v0, v1, v2], _, [y0, y1, y2], _ =>
    have h0 : DataW.trod enc Try.prog w base spare held m 3 (List.take (Try.prog.cellsOf 3) (List.drop 0 [v0, v1, v2])) = some y0 := hf 0 _ rfl
    rw [c1] at h0
    have h1 : DataW.trod enc Try.prog w base spare held m 3 (List.take (Try.prog.cellsOf 3) (List.drop 1 [v0, v1, v2])) = some y1 := hf 1 _ rfl
    rw [c1] at h1
    have h2 : DataW.trod enc Try.prog w base spare held m 3 (List.take (Try.prog.cellsOf 3) (List.drop 2 [v0, v1, v2])) = some y2 := hf 2 _ rfl
    rw [c1] at h2
    obtain ⟨k0, e0, _, _⟩ := DataW.trod_int Try.underlying3 h0
    obtain ⟨k1, e1, _, _⟩ := DataW.trod_int Try.underlying3 h1
    obtain ⟨k2, e2, _, _⟩ := DataW.trod_int Try.underlying3 h2
    obtain rfl : v0 = .int .i64 k0 := by simpa using e0
    obtain rfl : v1 = .int .i64 k1 := by simpa using e1
    obtain rfl : v2 = .int .i64 k2 := by simpa using e2
    exact ⟨k0, k1, k2, rfl⟩
end

set_option maxRecDepth 100000 in
theorem flashBits_lifted (os : Os) (started : os.Started) (H : Type) (enc : TypeId × Value → H) :
    ReturnsInHanded {} Try.checked os 8 .any (Rows.flashBitsSpec.pre6 enc Try.prog Try.f8 [] false) (Rows.flashBitsSpec.post enc Try.prog Try.f8 false true false false) := by
  refine law_lifted (C := Try.checked) 4 own started (by kernel_rfl) Try.func8
    (ChangeSpec.witness6 (enc := enc) (C := Try.checked) false ⟨#[], #[.agg #[.int .i64 0, .int .i64 0, .int .i64 0], .slice none 0 0], []⟩ 8 (by kernel_rfl) (by kernel_rfl) (by kernel_rfl) (by kernel_rfl))
    rfl (fun ds h => by match ds, h with | [d, e], _ => rfl) rfl Try.underlying4 laidOut
    (by rw [Try.params8]; intro t ht; simp only [List.mem_cons, List.not_mem_nil, or_false] at ht; rcases ht with rfl | rfl <;> exact ⟨by kernel_rfl, of_decide_eq_true (by kernel_rfl)⟩) ?_
  intro W base args ds ps hA0 hval
  have hA : DataW.TrodAll enc Try.prog W 0 (fun _ => true) true Try.f8.params.toList args.toList ds ps := hA0
  rw [Try.params8] at hA hval
  obtain ⟨v0, v1, d0, d1, p0, p1, hargs, rfl, rfl, ⟨f0, h0⟩, h1⟩ := trodAll_two hA
  subst hargs
  obtain ⟨f1, h1⟩ := h1
  obtain ⟨cs, rfl, _⟩ := okWide_struct Try.underlying71 (hval 0 71 v0 rfl rfl)
  obtain ⟨a1, len1, cap1, rfl⟩ := okWide_slice Try.underlying72 (hval 1 72 v1 rfl rfl)
  obtain ⟨s, q, l, e0⟩ := rd_sizesB h0
  obtain ⟨A, n, c, xs, e, g1, g2, g3, g4, g5⟩ := rd_plain (cells := fopCells) (ok := fun o => o.w < 4294967296 ∧ o.word ≤ 9223372036854775807) (size := 4) Try.underlying72 (by kernel_rfl) (by decide) (fun n cs x h => rd_fopB h) h1
  simp only [Value.cells, List.cons.injEq, and_true] at e
  rw [e]
  have hcs : cs = #[.int .i64 s, .int .i64 q, .int .i64 l] := by
    have e0' : cs.toList = [.int .i64 s, .int .i64 q, .int .i64 l] := e0
    rw [← Array.toArray_toList (xs := cs), e0']
  rw [hcs]
  exact flashBits_any s q l A n c xs W g3 g4 g5 (Nat.le_trans g1 g2)

theorem flashBits_holds : Rows.FlashBitsSaid :=
  OpenClaim.holds_of_wide 8 Try.f8 rfl rfl rfl rfl rfl rfl rfl ⟨rfl, rfl, rfl, rfl, rfl⟩ rfl rfl rfl rfl rfl (by kernel_rfl) Try.func8 (by kernel_rfl)
    (of_decide_eq_true (by kernel_rfl)) (by unfold Func.isWrapper; first | (rw [if_pos (by decide +kernel)]; kernel_rfl) | (rw [if_neg (by decide +kernel)]; exact ⟨rfl, rfl⟩))
    (fun os started H enc _ => flashBits_lifted os started H enc)
#print axioms flashBits_holds
end Go.Proofs.Ytgonnddgljgghaa
