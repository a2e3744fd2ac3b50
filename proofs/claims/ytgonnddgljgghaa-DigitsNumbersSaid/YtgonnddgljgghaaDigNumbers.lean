/- DigitsNumbers: for every number and every text the law returns true and its arguments read as before. No condition. -/
import Derived.Test.YtgonnddgljgghaaDigAlive
import Derived.Test.YtgonnddgljgghaaDigRead
import Derived.Test.YtgonnddgljgghaaLaw
namespace Go.Proofs.Ytgonnddgljgghaa
open Go.ChangeShapes Go.WideShapes Go.ChangeAt Go.RowKit Go.Deep

theorem same_text {a b : ByteArray} {l : List UInt8} (ha : bytesOf a = l) (hb : bytesOf b = l) : (a.toList == b.toList) = true := by rw [toList_beq, ha, hb]; simp
set_option maxRecDepth 100000 in
set_option maxHeartbeats 1000000 in
theorem digitsNumbers_any (n : Int) (s : ByteArray) (w : World) (hs : s.size ≤ maxLen) :
    Calls Try.prog 4 #[.int .i64 n, .string s] w fun e w' => e = .returned (.bool true) ∧ Keep [] w w' := by
  have hN := clampN_le n
  have HC := clamped n
  obtain ⟨N, hNN⟩ : ∃ N, N = clampN n := ⟨_, rfl⟩
  have cT := fun W => Lib.hid (text_any n W)
  have cT2 := fun W => Lib.hid (rtext_any n W)
  have cR := fun W => Lib.hid (read_any s W hs)
  have cR2 := fun W => Lib.hid (rread_any s W hs)
  rw [← hNN] at hN HC cT cT2
  simp only [← readP_readR] at cR2
  clear hNN
  obtain ⟨a, b, hab⟩ : ∃ a b, readP (bytesOf s) = (a, b) := ⟨_, _, rfl⟩
  rw [hab] at cR cR2
  clear hab
  rcases HC with ⟨h1, rfl⟩ | ⟨h1, rfl⟩ | ⟨h1, h2, h3⟩
  case' inr.inr => obtain rfl : n = (N : Int) := h3.symm; clear h3
  all_goals
    go_enter Try.func4, Try.ntmps4
    go_wp2_with fail
    refine (cT _).out.mono ?_
    rintro e w1 ⟨S, rfl, hS, k1⟩
    have cP := fun W => Lib.hid (read_any S W (by rw [← bytesOf_len, hS]; exact Nat.le_trans (decL_len 10 _ (by decide) (by omega)) (by decide)))
    rw [hS, readP_dec _ (by omega)] at cP
    go_wp2_with fail
    refine (cP _).out.mono ?_
    rintro e w2 ⟨rfl, rfl⟩
    clear cP
    go_wp2_with fail
    refine (cR _).out.mono ?_
    rintro e w2 ⟨rfl, rfl⟩
    go_wp2_with fail
    refine (cR2 _).out.mono ?_
    rintro e w2 ⟨rfl, k2⟩
    go_wp2_with fail
    refine (cT2 _).out.mono ?_
    rintro e w3 ⟨S', rfl, hS', k3⟩
    have hb := same_text hS hS'
    clear hS hS'
    go_wp2_with fail
    refine (alive01 _).mono ?_
    rintro e w4 ⟨rfl, k4⟩
    have K := ((k1.then k2).then k3).then k4
    go_wp2
    go_ret
    exact ⟨rfl, K⟩

set_option maxRecDepth 100000 in
theorem digitsNumbers_lifted (os : Os) (started : os.Started) (H : Type) (enc : TypeId × Value → H) :
    ReturnsInHanded {} Try.checked os 4 .any (Rows.digitsNumbersSpec.pre6 enc Try.prog Try.f4 [] false) (Rows.digitsNumbersSpec.post enc Try.prog Try.f4 false true false false) := by
  refine law_lifted (C := Try.checked) 4 own started (by kernel_rfl) Try.func4
    (ChangeSpec.witness6 (enc := enc) (C := Try.checked) false ⟨#[], #[.int .i64 0, .string ByteArray.empty], []⟩ 8 (by kernel_rfl) (by kernel_rfl) (by kernel_rfl) (by kernel_rfl))
    rfl (fun ds h => by match ds, h with | [d, e], _ => rfl) rfl Try.underlying4 laidOut
    (by rw [Try.params4]; intro t ht; simp only [List.mem_cons, List.not_mem_nil, or_false] at ht; rcases ht with rfl | rfl <;> exact ⟨by kernel_rfl, of_decide_eq_true (by kernel_rfl)⟩) ?_
  intro W base args ds ps hA0 hval
  have hA : DataW.TrodAll enc Try.prog W 0 (fun _ => true) true Try.f4.params.toList args.toList ds ps := hA0
  rw [Try.params4] at hA hval
  obtain ⟨v0, v1, d0, d1, p0, p1, rfl, rfl, rfl, h0, h1⟩ := trodAll_two hA
  obtain ⟨n, rfl, rfl, rfl, _⟩ := open_int Try.underlying3 (hval 0 3 v0 rfl rfl) h0
  obtain ⟨s, rfl, rfl, rfl, hs⟩ := Go.ChangeMaps.open_string Try.underlying9 (hval 1 9 v1 rfl rfl) h1
  exact digitsNumbers_any n s W hs

theorem digitsNumbers_holds : Rows.DigitsNumbersSaid :=
  OpenClaim.holds_of_wide 4 Try.f4 rfl rfl rfl rfl rfl rfl rfl ⟨rfl, rfl, rfl, rfl, rfl⟩ rfl rfl rfl rfl rfl (by kernel_rfl) Try.func4 (by kernel_rfl)
    (of_decide_eq_true (by kernel_rfl)) (by unfold Func.isWrapper; first | (rw [if_pos (by decide +kernel)]; kernel_rfl) | (rw [if_neg (by decide +kernel)]; exact ⟨rfl, rfl⟩))
    (fun os started H enc _ => digitsNumbers_lifted os started H enc)
#print axioms digitsNumbers_holds
end Go.Proofs.Ytgonnddgljgghaa
