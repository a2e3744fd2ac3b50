/- The iterator of a text's pieces, that tells what it has handed on (lines printed by a program, out of the text of its other contract). No other condition than a bound on the length. -/
import Derived.Test.YtoepkhkaifgddaaDigIter
import Derived.Test.YtoepkhkaifgddaaDigPcs
namespace Go.Proofs.Ytoepkhkaifgddaa
open Go.RowKit
attribute [local go_sem] Oper.semAt_some

set_option maxRecDepth 100000 in
set_option maxHeartbeats 1000000 in
theorem pieces1_seq (n : Nat) (s : ByteArray) (B : Nat) (w : World) (hB : B < w.heap.size) (hc : w.cell? ⟨B, 0, none⟩ = some (.string s)) (hs : s.size ≤ 140737488355328) :
    SeqP Fence.wide n Try.prog 66 #[.pointer (some ⟨B, 0, none⟩)] encNS (Same [B]) (number 0 (piecesOf s)) w := by
  intro l J Jx W hW hJ hJx hY h0
  have hcW := (hW.cell (p := ⟨B, 0, none⟩) hB).trans hc
  refine callsIn_of_wp Try.func66 rfl trivial ?_ rfl
  simp only [Try.ntmps66, List.size_toArray, List.length_cons, List.length_nil, Nat.reduceAdd, Nat.reduceSub, Array.replicate_succ, Array.replicate_zero, List.push_toArray, List.append_toArray, List.nil_append, List.cons_append]
  gi_wp2
  gi_loopw [3, 4, 5] (fun vn vf vi wr => ∃ k : Nat, k ≤ s.size + 1 ∧ vi = .int .i64 k ∧ vn = .int .i64 (scan s k).1.length ∧ vf = .int .i64 (fromI (scan s k).2) ∧ J (number 0 (scan s k).1) wr ∧ wr.cell? ⟨B, 0, none⟩ = some (.string s))
    (fun _ _ i _ => s.size + 1 - (intOf i).toNat)
  case atStart => exact ⟨0, Nat.zero_le _, rfl, rfl, rfl, h0, hcW⟩
  case round =>
    obtain ⟨k, hk, rfl, rfl, rfl, hJr, hcr⟩ := hrel
    by_cases hlt : k ≤ s.size
    · obtain ⟨hl1, hl2⟩ := scan_le s k
      have e0 : fromI none = -1 := rfl
      have hpre := Lib.hid (scan_prefix s (show k + 1 ≤ s.size + 1 by omega))
      have hend : k = s.size ∨ k < s.size := by omega
      rcases hf : (scan s k).2 with _ | a
      · have hF := Lib.hid hf
        clear hf
        cases hb : isBlank s k
        · have hS := Lib.hid (scan_char_none hb hF.out)
          have hk1 : k < s.size := by
            rcases hend with rfl | h
            · rw [isBlank_end] at hb; cases hb
            · exact h
          rw [isBlank_lt hk1] at hb
          have hb1 : ((s[k].toNat : Int) != 32) = true := by simpa using hb
          clear hb
          gi_wp2
          go_roundw
          case rel => exact ⟨k + 1, by omega, by go_num, by rw [hS.out], by rw [hS.out]; rfl, by rw [hS.out]; exact hJr, hcr⟩
          case measure => simp [intOf] <;> omega
        · have hS := Lib.hid (scan_blank_none hb hF.out)
          rcases hend with rfl | hk1
          · clear hb
            gi_wp2
            go_roundw
            case rel => exact ⟨s.size + 1, by omega, by go_num, by rw [hS.out], by rw [hS.out, hF.out], by rw [hS.out]; exact hJr, hcr⟩
            case measure => simp [intOf] <;> omega
          · rw [isBlank_lt hk1] at hb
            have hb1 : ((s[k].toNat : Int) != 32) = false := by simpa using hb
            clear hb
            gi_wp2
            go_roundw
            case rel => exact ⟨k + 1, by omega, by go_num, by rw [hS.out], by rw [hS.out, hF.out], by rw [hS.out]; exact hJr, hcr⟩
            case measure => simp [intOf] <;> omega
      · have hF := Lib.hid hf
        have hak := hl2 a hf
        have e1 : fromI (some a) = (a : Int) := rfl
        clear hf hl2
        cases hb : isBlank s k
        · have hS := Lib.hid (scan_char_some hb hF.out)
          have hk1 : k < s.size := by
            rcases hend with rfl | h
            · rw [isBlank_end] at hb; cases hb
            · exact h
          rw [isBlank_lt hk1] at hb
          have hb1 : ((s[k].toNat : Int) != 32) = true := by simpa using hb
          clear hb
          gi_wp2
          go_roundw
          case rel => exact ⟨k + 1, by omega, by go_num, by rw [hS.out], by rw [hS.out, hF.out], by rw [hS.out]; exact hJr, hcr⟩
          case measure => simp [intOf] <;> omega
        · have hS := Lib.hid (scan_blank_some hb hF.out)
          have hN : Hid (number 0 (scan s k).1 ++ [(((scan s k).1.length : Int), s.extract a k)] = number 0 (scan s (k + 1)).1) := by
            show _ = _
            rw [hS.out, number_snoc, Nat.zero_add]
          obtain ⟨fn, tmps, assign, body, hy, hR⟩ := hY (number 0 (scan s k).1) (((scan s k).1.length : Int), s.extract a k) wr hJr (by rw [hN.out]; exact number_prefix hpre.out)
          dsimp only [encNS] at hy
          rcases hend with rfl | hk1
          · clear hb
            gi_wp2
            refine ⟨fun h => (by cases h), hR.mono ?_⟩
            rintro e W3 (⟨rfl, hJ3, hk3⟩ | ⟨rfl, hJx3⟩)
            · have hc3 : W3.cell? ⟨B, 0, none⟩ = some (.string s) := (hk3.cell (p := ⟨B, 0, none⟩) (by simp)).trans hcr
              gi_wp2
              go_roundw
              case rel => exact ⟨s.size + 1, by omega, by go_num, by rw [hS.out]; simp, by rw [hS.out]; rfl, by rw [← hN.out]; exact hJ3, hc3⟩
              case measure => simp [intOf] <;> omega
            · gi_wp2
              refine bodyPost_ret (results_none rfl _ _ _) rfl ?_
              exact ⟨⟨_, rfl⟩, .inr ⟨_, by rw [hN.out]; exact number_prefix hpre.out, hJx3⟩⟩
          · rw [isBlank_lt hk1] at hb
            have hb1 : ((s[k].toNat : Int) != 32) = false := by simpa using hb
            clear hb
            gi_wp2
            refine ⟨fun h => (by cases h), hR.mono ?_⟩
            rintro e W3 (⟨rfl, hJ3, hk3⟩ | ⟨rfl, hJx3⟩)
            · have hc3 : W3.cell? ⟨B, 0, none⟩ = some (.string s) := (hk3.cell (p := ⟨B, 0, none⟩) (by simp)).trans hcr
              gi_wp2
              go_roundw
              case rel => exact ⟨k + 1, by omega, by go_num, by rw [hS.out]; simp, by rw [hS.out]; rfl, by rw [← hN.out]; exact hJ3, hc3⟩
              case measure => simp [intOf] <;> omega
            · gi_wp2
              refine bodyPost_ret (results_none rfl _ _ _) rfl ?_
              exact ⟨⟨_, rfl⟩, .inr ⟨_, by rw [hN.out]; exact number_prefix hpre.out, hJx3⟩⟩
    · obtain rfl : k = s.size + 1 := by omega
      gi_wp2
      go_end0
      exact ⟨⟨_, rfl⟩, .inl hJr⟩
end Go.Proofs.Ytoepkhkaifgddaa
