/- count and alive of the law of tallies, walked. -/
import Derived.Test.YtgonnddgljgghaaTally3
namespace Go.Proofs.Ytgonnddgljgghaa
open Go.RowKit

theorem reads_new (w : World) (e size n : Nat) (cs : List Value) (h : cs.length = n * size) : Reads (w.alloc (.cells cs.toArray e)) size (some ⟨w.heap.size, 0, none⟩) n cs :=
  ⟨h, fun _ => ⟨w.heap.size, 0, rfl, by simp, fun j u hu => by rw [Nat.zero_add, (Blk.new w e cs.toArray).cell j]; simpa using hu⟩⟩

set_option maxRecDepth 100000 in
set_option maxHeartbeats 400000 in
theorem count_any (A : Option Addr) (n c : Nat) (l : List Ev) (q : Int) (w : World) (hr : Reads w 4 A n (evRow l)) (hn : l.length = n) (hm : n ≤ maxLen) :
    Calls Try.prog 38 #[.slice A n c, .int .i64 q] w fun e w' => e = .returned (.int .i64 (cnt l q : Int)) ∧ w = w' := by
  unfold maxLen at hm
  go_enter Try.func38, Try.ntmps38
  have HN := Lib.hid hn
  clear hn
  go_wp2
  go_loop [5, 6] (fun vn vi => ∃ k : Nat, k ≤ n ∧ vi = .int .i64 k ∧ vn = .int .i64 (cnt (l.take k) q : Int)) (fun _ vi => n - (intOf vi).toNat)
  case atStart => exact ⟨0, Nat.zero_le _, rfl, rfl⟩
  case round =>
    obtain ⟨k, hk, rfl, rfl⟩ := hrel
    by_cases hlt : k < n
    · have hl : k < l.length := by rw [HN.out]; exact hlt
      obtain ⟨b, o, rfl, hb, hc⟩ := hr.addr (by omega)
      have hc1 := hc (k * 4 + 1) _ ((evRow_at l k hl 1 (by decide)).trans (List.getElem?_eq_getElem (by simp [evCells])))
      simp only [evCells, ← Nat.add_assoc, List.getElem_cons_zero, List.getElem_cons_succ] at hc1
      have hcl := cnt_le (l.take k) q
      rw [List.length_take] at hcl
      have HT : Hid (cnt (l.take (k + 1)) q = cnt (l.take k) q + if l[k].kind = q then 1 else 0) := by
        show _ = _
        rw [List.take_succ_eq_append_getElem hl, cnt_snoc]
      generalize l[k].kind = e at *
      generalize cnt (l.take k) q = x at *
      clear hr hc
      by_cases he : e = q
      · have hd : (e == q) = true := by simp [he]
        have H2 : Hid (cnt (l.take (k + 1)) q = x + 1) := by show _ = _; rw [HT.out, if_pos he]
        clear he HT
        go_wp2
        go_round
        case rel => exact ⟨k + 1, by omega, by go_num, by rw [H2.out]; rfl⟩
        case measure => simp [intOf] <;> omega
      · have hd : (e == q) = false := by simp [he]
        have H2 : Hid (cnt (l.take (k + 1)) q = x) := by show _ = _; rw [HT.out, if_neg he]; rfl
        clear he HT
        go_wp2
        go_round
        case rel => exact ⟨k + 1, by omega, by go_num, by rw [H2.out]⟩
        case measure => simp [intOf] <;> omega
    · have hall : Hid (cnt (l.take k) q = cnt l q) := by show _ = _; rw [List.take_of_length_le (by rw [HN.out]; omega)]
      rw [hall.out]
      go_wp2
      go_ret
      exact ⟨rfl, rfl⟩

abbrev evEx : Ev := ⟨0, 2, 0, 0⟩
theorem cnt_ex (k : Int) : cnt [evEx, evEx] k = if k = 2 then 2 else 0 := by
  by_cases h : k = 2
  · subst h; rfl
  · rw [if_neg h]; unfold cnt; simp [show ¬ (2 : Int) = k by omega]
theorem ex44 : talText [evEx, evEx] 10 = [48, 32, 50, 32, 48, 32, 48, 32, 48, 32, 48, 32, 48, 32, 48, 32, 48, 32, 48] := by
  have e0 : decL (clampN 0) = [48] := by rw [show clampN 0 = 0 by decide, decL_small (by decide)]; rfl
  have e2 : decL (clampN 2) = [50] := by rw [show clampN 2 = 2 by decide, decL_small (by decide)]; rfl
  simp only [talText, cnt_ex]
  simp [e0, e2]

set_option maxRecDepth 100000 in
set_option maxHeartbeats 400000 in
theorem alive44 (w : World) : Calls Try.prog 44 #[] w fun e w' => e = .returned (.bool true) ∧ Keep [] w w' := by
  go_enter Try.func44, Try.ntmps44
  go_wp2_with fail
  refine (tallyOf_any _ _ _ [evEx, evEx] _ (reads_new w 101 4 2 (evRow [evEx, evEx]) rfl) rfl (by decide)).mono ?_
  rintro e w1 ⟨rfl, k1⟩
  have K := ((Keep.refl [] w).alloc _).trans k1 (by simp)
  have HX := Lib.hid ex44
  go_wp2_with fail
  refine (tallyText_any [evEx, evEx] w1).mono ?_
  rintro e w2 ⟨S, rfl, hS, k2⟩
  rw [HX.out] at hS
  have t1 : (S.toList == [48, 32, 50, 32, 48, 32, 48, 32, 48, 32, 48, 32, 48, 32, 48, 32, 48, 32, 48]) = true := by rw [ByteArray.toList_eq]; show (bytesOf S == _) = true; rw [hS]; rfl
  clear hS
  go_wp2
  go_ret
  exact ⟨rfl, K.then k2⟩
end Go.Proofs.Ytgonnddgljgghaa
