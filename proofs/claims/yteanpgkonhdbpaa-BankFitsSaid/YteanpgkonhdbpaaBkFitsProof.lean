/- BankFits: for all sizes and places the law returns true and its arguments read as before. No condition. -/
import Derived.Test.YteanpgkonhdbpaaLaw
import Derived.Test.YteanpgkonhdbpaaBkFits
namespace Go.Proofs.Yteanpgkonhdbpaa
open Go.ChangeShapes Go.WideShapes Go.ChangeAt Go.RowKit Go.Deep

theorem fits_any (s n b m : Int) (w : World) :
    Calls Try.prog 5 #[.int .i64 s, .int .i64 n, placeB b m] w fun e w' => e = .returned (.bool true) ∧ Keep [] w w' := by
  cases hk : newOk s n 9
  · exact fits_no s n b m w hk
  · unfold newOk at hk
    have hk := of_decide_eq_true hk
    obtain ⟨s', rfl⟩ : ∃ k : Nat, s = (k : Int) := ⟨s.toNat, by omega⟩
    obtain ⟨n', rfl⟩ : ∃ k : Nat, n = (k : Int) := ⟨n.toNat, by omega⟩
    exact fits_yes s' n' b m w (by omega) (by omega) (by omega) (by omega)

section
variable {H : Type} {enc : TypeId × Value → H} {w : World} {base : Nat} {spare : Nat → Bool} {held : Bool}
set_option maxRecDepth 100000 in
theorem rd_placeB {n : Nat} {cs : List Value} {x : DataW H × List MemPlace} (h : DataW.trod enc Try.prog w base spare held n 53 cs = some x) : ∃ b m : Int, cs = [.int .i64 b, .int .i64 m] := by
  obtain ⟨xs, m, _, _, hlen, hxl, hf⟩ := DataW.trod_struct Try.underlying53 h
  have hC : Try.prog.cellsOf 53 = 2 := by kernel_rfl
  have c1 : Try.prog.cellsOf 3 = 1 := by kernel_rfl
  rw [hC] at hlen
  match cs, hlen, xs, hxl with
  | [v0, v1], _, [y0, y1], _ =>
    have h0 : DataW.trod enc Try.prog w base spare held m 3 (List.take (Try.prog.cellsOf 3) (List.drop 0 [v0, v1])) = some y0 := hf 0 _ rfl
    rw [c1] at h0
    have h1 : DataW.trod enc Try.prog w base spare held m 3 (List.take (Try.prog.cellsOf 3) (List.drop 1 [v0, v1])) = some y1 := hf 1 _ rfl
    rw [c1] at h1
    obtain ⟨k0, e0, _, _⟩ := DataW.trod_int Try.underlying3 h0
    obtain ⟨k1, e1, _, _⟩ := DataW.trod_int Try.underlying3 h1
    obtain rfl : v0 = .int .i64 k0 := by simpa using e0
    obtain rfl : v1 = .int .i64 k1 := by simpa using e1
    exact ⟨k0, k1, rfl⟩
end

set_option maxRecDepth 100000 in
theorem bankFits_lifted (os : Os) (started : os.Started) (H : Type) (enc : TypeId × Value → H) :
    ReturnsInHanded {} Try.checked os 5 .any (Rows.bankFitsSpec.pre6 enc Try.prog Try.f5 [] false) (Rows.bankFitsSpec.post enc Try.prog Try.f5 false true false false) := by
  refine law_lifted (C := Try.checked) 4 own started (by kernel_rfl) Try.func5
    (ChangeSpec.witness6 (enc := enc) (C := Try.checked) false ⟨#[], #[.int .i64 0, .int .i64 0, .agg #[.int .i64 0, .int .i64 0]], []⟩ 8 (by kernel_rfl) (by kernel_rfl) (by kernel_rfl) (by kernel_rfl))
    rfl (fun ds h => by match ds, h with | [d0, d1, d2], _ => rfl) rfl Try.underlying4 laidOut
    (by rw [Try.params5]; intro t ht; simp only [List.mem_cons, List.not_mem_nil, or_false] at ht; rcases ht with rfl | rfl | rfl <;> exact ⟨by kernel_rfl, of_decide_eq_true (by kernel_rfl)⟩) ?_
  intro W base args ds ps hA0 hval
  have hA : DataW.TrodAll enc Try.prog W 0 (fun _ => true) true Try.f5.params.toList args.toList ds ps := hA0
  rw [Try.params5] at hA hval
  obtain ⟨v0, v1, v2, d0, d1, d2, p0, p1, p2, hargs, rfl, rfl, h0, h1, h2⟩ := trodAll_three hA
  subst hargs
  obtain ⟨s, rfl⟩ := okWide_int Try.underlying3 (hval 0 3 v0 rfl rfl)
  obtain ⟨n, rfl⟩ := okWide_int Try.underlying3 (hval 1 3 v1 rfl rfl)
  obtain ⟨f2, h2⟩ := h2
  obtain ⟨cs2, rfl, hsz2⟩ := okWide_struct Try.underlying53 (hval 2 53 v2 rfl rfl)
  obtain ⟨b, m, hm2⟩ := rd_placeB h2
  have e2 : cs2 = #[.int .i64 b, .int .i64 m] := by
    have : cs2.toList = [.int .i64 b, .int .i64 m] := hm2
    rw [← Array.toArray_toList (xs := cs2), this]
  subst e2
  exact fits_any s n b m W

theorem bankFits_holds : Rows.BankFitsSaid :=
  OpenClaim.holds_of_wide 5 Try.f5 rfl rfl rfl rfl rfl rfl rfl ⟨rfl, rfl, rfl, rfl, rfl⟩ rfl rfl rfl rfl rfl (by kernel_rfl) Try.func5 (by kernel_rfl)
    (of_decide_eq_true (by kernel_rfl)) (by unfold Func.isWrapper; first | (rw [if_pos (by decide +kernel)]; kernel_rfl) | (rw [if_neg (by decide +kernel)]; exact ⟨rfl, rfl⟩))
    (fun os started H enc _ => bankFits_lifted os started H enc)
#print axioms bankFits_holds
end Go.Proofs.Yteanpgkonhdbpaa
