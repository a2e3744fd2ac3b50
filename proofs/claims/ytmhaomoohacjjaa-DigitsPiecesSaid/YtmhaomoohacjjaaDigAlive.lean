/- The chapter's examples (alive), walked: true. -/
import Derived.Test.YtmhaomoohacjjaaDigWord
import Derived.Test.YtmhaomoohacjjaaDigHelp
namespace Go.Proofs.Ytmhaomoohacjjaa
open Go.RowKit

def exText : ByteArray := { data := #[32, 97, 32, 32, 98, 99] }
theorem ex_pieces : piecesOf exText = [⟨#[97]⟩, ⟨#[98, 99]⟩] := by decide +kernel
theorem ex_dec : decL (clampN 120) = [49, 50, 48] := by
  have e : clampN 120 = 120 := by decide
  rw [e, decL_big (by decide), decL_big (by decide), decL_small (by decide)]; decide
theorem ex_hex : hexL 11 = [48, 48, 48, 48, 48, 48, 48, 98] := by decide +kernel
set_option maxRecDepth 100000 in
set_option maxHeartbeats 400000 in
theorem alive01 (w : World) : Calls Try.prog 10 #[] w fun e w' => e = .returned (.bool true) ∧ Keep [] w w' := by
  go_enter Try.func10, Try.ntmps10
  go_wp2_with fail
  refine (piecesHelp_any exText w (by decide)).mono ?_
  rintro e w1 ⟨A, c, rfl, hown, k1⟩
  rw [ex_pieces] at hown ⊢
  have hr := Reads.of_own hown
  obtain ⟨b, o, rfl, _, hc⟩ := hr.2 (by decide)
  have hc1 := hc 1 (.string ⟨#[98, 99]⟩) rfl
  clear hown hr hc
  go_wp2_with fail
  refine (text_any 120 w1).mono ?_
  rintro e w2 ⟨S, rfl, hS, k2⟩
  rw [ex_dec] at hS
  have t1 : (S.toList == [49, 50, 48]) = true := by rw [ByteArray.toList_eq]; show (bytesOf S == _) = true; rw [hS]; rfl
  have hb := World.block_lt_of_cell? _ _ hc1
  have hc2 := (k2.cell (p := ⟨b, o + 1, none⟩) hb (by simp)).trans hc1
  clear hS
  go_wp2_with fail
  refine (word_any 11 w2 (by decide)).mono ?_
  rintro e w3 ⟨T, rfl, hT, k3⟩
  rw [ex_hex] at hT
  have t2 : (T.toList == [48, 48, 48, 48, 48, 48, 48, 98]) = true := by rw [ByteArray.toList_eq]; show (bytesOf T == _) = true; rw [hT]; rfl
  have hb2 := World.block_lt_of_cell? _ _ hc2
  have hc3 := (k3.cell (p := ⟨b, o + 1, none⟩) hb2 (by simp)).trans hc2
  have K := (k1.then k2).then k3
  clear hT hc1 hc2 k1 k2 k3
  go_wp2
  go_ret
  exact ⟨rfl, K⟩
end Go.Proofs.Ytmhaomoohacjjaa
