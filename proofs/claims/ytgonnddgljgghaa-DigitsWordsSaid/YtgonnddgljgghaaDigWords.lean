/- DigitsWords: for every word and every text the law returns true and its arguments read as before. No condition. -/
import Derived.Test.YtgonnddgljgghaaDigAlive
import Derived.Test.YtgonnddgljgghaaLaw
namespace Go.Proofs.Ytgonnddgljgghaa
open Go.ChangeShapes Go.WideShapes Go.ChangeAt Go.RowKit Go.Deep

theorem same_text' {a b : ByteArray} {l : List UInt8} (ha : bytesOf a = l) (hb : bytesOf b = l) : (a.toList == b.toList) = true := by rw [toList_beq, ha, hb]; simp
set_option maxRecDepth 100000 in
set_option maxHeartbeats 1000000 in
theorem digitsWords_any (x : Nat) (s : ByteArray) (w : World) (hx : x < 4294967296) (hs : s.size ≤ maxLen) :
    Calls Try.prog 5 #[.int .u32 (x : Int), .string s] w fun e w' => e = .returned (.bool true) ∧ Keep [] w w' := by
  have cT := fun W => Lib.hid (word_any x W hx)
  have cT2 := fun W => Lib.hid (rword_any x W hx)
  have cR := fun W => Lib.hid (readWord_any s W hs)
  have cR2 := fun W => Lib.hid (rreadWord_any s W hs)
  have hP := Lib.hid (readWP_hex x hx)
  simp only [readW_same] at cR2
  clear hx
  obtain ⟨a, b, hab⟩ : ∃ a b, readWP (bytesOf s) = (a, b) := ⟨_, _, rfl⟩
  rw [hab] at cR cR2
  clear hab
  go_enter Try.func5, Try.ntmps5
  go_wp2_with fail
  refine (cT _).out.mono ?_
  rintro e w1 ⟨S, rfl, hS, k1⟩
  have cP := fun W => Lib.hid (readWord_any S W (by rw [← bytesOf_len, hS]; unfold hexL; rw [hexN_len]; decide))
  rw [hS, hP.out] at cP
  go_wp2_with fail
  refine (cP _).out.mono ?_
  rintro e w2 ⟨rfl, k2⟩
  clear cP
  go_wp2_with fail
  refine (cR _).out.mono ?_
  rintro e w3 ⟨rfl, k3⟩
  go_wp2_with fail
  refine (cR2 _).out.mono ?_
  rintro e w4 ⟨rfl, k4⟩
  go_wp2_with fail
  refine (cT2 _).out.mono ?_
  rintro e w5 ⟨S', rfl, hS', k5⟩
  have hb := same_text' hS hS'
  clear hS hS'
  go_wp2_with fail
  refine (alive01 _).mono ?_
  rintro e w6 ⟨rfl, k6⟩
  have K := ((((k1.then k2).then k3).then k4).then k5).then k6
  go_wp2
  go_ret
  exact ⟨rfl, K⟩

set_option maxRecDepth 100000 in
theorem digitsWords_lifted (os : Os) (started : os.Started) (H : Type) (enc : TypeId × Value → H) :
    ReturnsInHanded {} Try.checked os 5 .any (Rows.digitsWordsSpec.pre6 enc Try.prog Try.f5 [] false) (Rows.digitsWordsSpec.post enc Try.prog Try.f5 false true false false) := by
  refine law_lifted (C := Try.checked) 4 own started (by kernel_rfl) Try.func5
    (ChangeSpec.witness6 (enc := enc) (C := Try.checked) false ⟨#[], #[.int .u32 0, .string ByteArray.empty], []⟩ 8 (by kernel_rfl) (by kernel_rfl) (by kernel_rfl) (by kernel_rfl))
    rfl (fun ds h => by match ds, h with | [d, e], _ => rfl) rfl Try.underlying4 laidOut
    (by rw [Try.params5]; intro t ht; simp only [List.mem_cons, List.not_mem_nil, or_false] at ht; rcases ht with rfl | rfl <;> exact ⟨by kernel_rfl, of_decide_eq_true (by kernel_rfl)⟩) ?_
  intro W base args ds ps hA0 hval
  have hA : DataW.TrodAll enc Try.prog W 0 (fun _ => true) true Try.f5.params.toList args.toList ds ps := hA0
  rw [Try.params5] at hA hval
  obtain ⟨v0, v1, d0, d1, p0, p1, rfl, rfl, rfl, h0, h1⟩ := trodAll_two hA
  obtain ⟨n, rfl, rfl, rfl, wn⟩ := open_int Try.underlying24 (hval 0 24 v0 rfl rfl) h0
  obtain ⟨x, rfl, hx⟩ := wf_bounds_u32 wn
  obtain ⟨s, rfl, rfl, rfl, hs⟩ := Go.ChangeMaps.open_string Try.underlying9 (hval 1 9 v1 rfl rfl) h1
  exact digitsWords_any x s W hx hs

theorem digitsWords_holds : Rows.DigitsWordsSaid :=
  OpenClaim.holds_of_wide 5 Try.f5 rfl rfl rfl rfl rfl rfl rfl ⟨rfl, rfl, rfl, rfl, rfl⟩ rfl rfl rfl rfl rfl (by kernel_rfl) Try.func5 (by kernel_rfl)
    (of_decide_eq_true (by kernel_rfl)) (by unfold Func.isWrapper; first | (rw [if_pos (by decide +kernel)]; kernel_rfl) | (rw [if_neg (by decide +kernel)]; exact ⟨rfl, rfl⟩))
    (fun os started H enc _ => digitsWords_lifted os started H enc)
#print axioms digitsWords_holds
end Go.Proofs.Ytgonnddgljgghaa
