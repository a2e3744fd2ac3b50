/- flash.New, walked. -/
import Derived.Test.YteanpgkonhdbpaaFlashRead
import Derived.Test.YteanpgkonhdbpaaReg
namespace Go.Proofs.Yteanpgkonhdbpaa
open Go.RowKit

def newOk (s n l : Int) : Bool := decide (1 ≤ s ∧ s ≤ 64 ∧ 1 ≤ n ∧ n ≤ 1024 ∧ 0 ≤ l ∧ l ≤ 1048576)
theorem newOk_cases {s n l : Int} (h : newOk s n l = false) : s < 1 ∨ (1 ≤ s ∧ 64 < s) ∨ (1 ≤ s ∧ s ≤ 64 ∧ n < 1) ∨ (1 ≤ s ∧ s ≤ 64 ∧ 1 ≤ n ∧ 1024 < n) ∨ (1 ≤ s ∧ s ≤ 64 ∧ 1 ≤ n ∧ n ≤ 1024 ∧ l < 0) ∨ (1 ≤ s ∧ s ≤ 64 ∧ 1 ≤ n ∧ n ≤ 1024 ∧ 0 ≤ l ∧ 1048576 < l) := by
  unfold newOk at h
  have := of_decide_eq_false h
  omega

set_option maxRecDepth 100000 in
set_option maxHeartbeats 1000000 in
theorem fnew_no (s n l : Int) (w : World) (h : newOk s n l = false) :
    Calls Try.prog 12 #[.int .i64 s, .int .i64 n, .int .i64 l] w fun e w' => e = .returned (.tuple #[.pointer none, .int .i64 64]) ∧ w = w' := by
  rcases newOk_cases h with h1 | ⟨h1, h2⟩ | ⟨h1, h2, h3⟩ | ⟨h1, h2, h3, h4⟩ | ⟨h1, h2, h3, h4, h5⟩ | ⟨h1, h2, h3, h4, h5, h6⟩
  all_goals
    clear h
    go_enter Try.func12, Try.ntmps12
    go_wp2
    go_ret2
    exact ⟨rfl, rfl⟩

/-- k words blank, the rest zero. -/
def fillL (N k : Nat) : List Nat := List.replicate k 4294967295 ++ List.replicate (N - k) 0
theorem fillL_len (N k : Nat) (h : k ≤ N) : (fillL N k).length = N := by simp [fillL]; omega
theorem fillL_zero (N : Nat) : fillL N 0 = List.replicate N 0 := by simp [fillL]
theorem fillL_all (N : Nat) : fillL N N = List.replicate N 4294967295 := by simp [fillL]
theorem fillL_set (N k : Nat) (h : k < N) : (fillL N k).set k 4294967295 = fillL N (k + 1) := by
  unfold fillL
  apply List.ext_getElem?
  intro i
  rw [List.getElem?_set]
  by_cases hk : k = i
  · subst hk
    rw [if_pos rfl, if_pos (by simp; omega), List.getElem?_append_left (by simp)]
    simp
  · rw [if_neg hk]
    by_cases hi : i < k
    · rw [List.getElem?_append_left (by simp; omega), List.getElem?_append_left (by simp; omega)]
      rw [List.getElem?_replicate, List.getElem?_replicate, if_pos hi, if_pos (by omega)]
    · rw [List.getElem?_append_right (by simp; omega), List.getElem?_append_right (by simp; omega)]
      simp only [List.length_replicate, List.getElem?_replicate]
      by_cases hN : i < N
      · rw [if_pos (by omega), if_pos (by omega)]
      · rw [if_neg (by omega), if_neg (by omega)]
theorem wordsV_set (l : List Nat) (k x : Nat) : (wordsV l).toArray.setIfInBounds k (.int .u32 (x : Int)) = (wordsV (l.set k x)).toArray := by
  simp [wordsV, List.map_set]
theorem natsV_set (l : List Nat) (k x : Nat) : (natsV l).toArray.setIfInBounds k (.int .i64 (x : Int)) = (natsV (l.set k x)).toArray := by
  simp [natsV, List.map_set]
theorem info_int06 : (Try.prog.info? 3).map (fun i => (i.zero, i.size, i.bytes)) = some (some (.int .i64 0), 1, 8) := by kernel_rfl
theorem info_u32 : (Try.prog.info? 33).map (fun i => (i.zero, i.size, i.bytes)) = some (some (.int .u32 0), 1, 4) := by kernel_rfl

def RetNew (w : World) (d : Dev) (e : Ending) (w' : World) : Prop := ∃ g b1 b2, e = .returned (.tuple #[.pointer (some ⟨g, 0, none⟩), .int .i64 0]) ∧ w.heap.size ≤ g ∧ w.heap.size ≤ b1 ∧ w.heap.size ≤ b2 ∧ DevAt w' g b1 b2 d ∧ Keep [] w w'

set_option maxRecDepth 100000 in
set_option maxHeartbeats 1000000 in
theorem fnew_yes (s n l : Nat) (w : World) (h1 : 1 ≤ s) (h2 : s ≤ 64) (h3 : 1 ≤ n) (h4 : n ≤ 1024) (h6 : l ≤ 1048576) :
    Calls Try.prog 12 #[.int .i64 s, .int .i64 n, .int .i64 l] w (RetNew w (newD s n l)) := by
  have hm : s * n ≤ 65536 := Nat.le_trans (Nat.mul_le_mul h2 h4) (by decide)
  have HM : Hid ((s : Int) * (n : Int) = ((s * n : Nat) : Int)) := by show _ = _; rw [Int.natCast_mul]
  obtain ⟨N, hN⟩ : ∃ N, s * n = N := ⟨_, rfl⟩
  have HN := Lib.hid hN
  rw [hN] at hm HM
  clear hN
  have hz1 : 0 ≤ (s : Int) * (n : Int) := by rw [HM.out]; omega
  have hz2 : (s : Int) * (n : Int) ≤ 65536 := by rw [HM.out]; omega
  go_enter Try.func12, Try.ntmps12
  go_wp2_with (first | (refine wpList_make1 rfl (.tmp 34) (.tmp 34) 55 rfl 3 _ 8 Try.underlying55 info_int06 rfl s rfl rfl (by omega) (by omega) ?_) | refine stop_at 42 rfl ?_)
  constructor
  rw [HM.out]
  refine wpList_make1 rfl (.tmp 41) (.tmp 41) 54 rfl 33 _ 4 Try.underlying54 info_u32 rfl N rfl rfl (by omega) (by omega) ?_
  go_wp2
  obtain ⟨W, hW⟩ : ∃ W, ((w.alloc (.cells (Array.replicate s (Value.int .i64 0)) 3)).alloc (.cells #[.int .i64 n, .int .i64 l, .slice (some ⟨w.heap.size + 1 + 1, 0, none⟩) N N, .slice (some ⟨w.heap.size, 0, none⟩) s s, .bool true, .bool false, .int .i64 0, .int .u32 0, .int .i64 0] 112)).alloc (.cells (Array.replicate N (Value.int .u32 0)) 33) = W := ⟨_, rfl⟩
  have e0 : Blk W w.heap.size 3 (Array.replicate s (Value.int .i64 0)) := by rw [← hW]; exact ((Blk.new _ _ _).alloc _).alloc _
  have e1 : Blk W (w.heap.size + 1) 112 #[.int .i64 n, .int .i64 l, .slice (some ⟨w.heap.size + 1 + 1, 0, none⟩) N N, .slice (some ⟨w.heap.size, 0, none⟩) s s, .bool true, .bool false, .int .i64 0, .int .u32 0, .int .i64 0] := by
    rw [← hW]
    have := Blk.new (w.alloc (.cells (Array.replicate s (Value.int .i64 0)) 3)) 112 #[.int .i64 n, .int .i64 l, .slice (some ⟨w.heap.size + 1 + 1, 0, none⟩) N N, .slice (some ⟨w.heap.size, 0, none⟩) s s, .bool true, .bool false, .int .i64 0, .int .u32 0, .int .i64 0]
    rw [World.size_alloc] at this
    exact this.alloc _
  have e2 : Blk W (w.heap.size + 1 + 1) 33 (Array.replicate N (Value.int .u32 0)) := by
    rw [← hW]
    have := Blk.new ((w.alloc (.cells (Array.replicate s (Value.int .i64 0)) 3)).alloc (.cells #[.int .i64 n, .int .i64 l, .slice (some ⟨w.heap.size + 1 + 1, 0, none⟩) N N, .slice (some ⟨w.heap.size, 0, none⟩) s s, .bool true, .bool false, .int .i64 0, .int .u32 0, .int .i64 0] 112)) 33 (Array.replicate N (Value.int .u32 0))
    rw [World.size_alloc, World.size_alloc] at this
    exact this
  have k0 : Keep [] w W := by rw [← hW]; exact (((Keep.refl _ w).alloc _).alloc _).alloc _
  rw [hW]
  have E0 : Hid (Blk W w.heap.size 3 (natsV (List.replicate s 0)).toArray) := Blk.cast e0 (by simp [natsV])
  have E2 : Hid (Blk W (w.heap.size + 1 + 1) 33 (wordsV (fillL N 0)).toArray) := Blk.cast e2 (by simp [wordsV, fillL_zero])
  have E1 := Lib.hid e1
  have K0 := Lib.hid k0
  clear e0 e1 e2 k0 hW hz1 hz2
  go_loopw [50] (fun vi wr => ∃ k : Nat, k ≤ N ∧ vi = .int .i64 k ∧ Blk wr (w.heap.size + 1 + 1) 33 (wordsV (fillL N k)).toArray ∧ Blk wr (w.heap.size + 1) 112 #[.int .i64 n, .int .i64 l, .slice (some ⟨w.heap.size + 1 + 1, 0, none⟩) N N, .slice (some ⟨w.heap.size, 0, none⟩) s s, .bool true, .bool false, .int .i64 0, .int .u32 0, .int .i64 0] ∧ Blk wr w.heap.size 3 (natsV (List.replicate s 0)).toArray ∧ Keep [] w wr) (fun vi _ => N - (intOf vi).toNat)
  case atStart => exact ⟨0, Nat.zero_le _, rfl, E2.out, E1.out, E0.out, K0.out⟩
  case round =>
    obtain ⟨k, hk, rfl, r2, r1, r0, rk⟩ := hrel
    by_cases hlt : k < N
    · have hc1 := r1.cell 2
      simp at hc1
      have hlen := fillL_len N k (by omega)
      have hc2 : ∃ x : Nat, wr.cell? ⟨w.heap.size + 1 + 1, k, none⟩ = some (.int .u32 (x : Int)) := by
        rw [r2.cell k]
        exact ⟨(fillL N k)[k]'(by omega), by simp [hlen, hlt]⟩
      obtain ⟨x, hc2⟩ := hc2
      have hf2 := r2.frozen k
      have n2 : Blk (wr.setCell ⟨w.heap.size + 1 + 1, k, none⟩ (.int .u32 4294967295)) (w.heap.size + 1 + 1) 33 (wordsV (fillL N (k + 1))).toArray := Blk.cast (r2.set_ k _) (by rw [← fillL_set N k hlt]; exact wordsV_set _ k 4294967295)
      have N2 := Lib.hid n2
      have N1 := Lib.hid (r1.far (p := ⟨w.heap.size + 1 + 1, k, none⟩) (by simp) (.int .u32 4294967295))
      have N0 := Lib.hid (r0.far (p := ⟨w.heap.size + 1 + 1, k, none⟩) (by simp; omega) (.int .u32 4294967295))
      have NK := Lib.hid (rk.setCell (p := ⟨w.heap.size + 1 + 1, k, none⟩) (by simp; omega) (.int .u32 4294967295))
      clear n2 r0 r1 r2 rk hlen
      go_wp2
      go_roundw
      case rel => exact ⟨k + 1, by omega, by go_num, N2.out, N1.out, N0.out, NK.out⟩
      case measure => simp [intOf] <;> omega
    · obtain rfl : k = N := by omega
      have R : Hid (RetNew w (newD s n l) (.returned (.tuple #[.pointer (some ⟨w.heap.size + 1, 0, none⟩), .int .i64 0])) wr) := by
        refine ⟨w.heap.size + 1, w.heap.size + 1 + 1, w.heap.size, rfl, by omega, by omega, by omega, ⟨Blk.cast r1 ?_, Blk.cast r2 ?_, Blk.cast r0 rfl⟩, rk⟩
        · simp [devV, newD, HN.out]
        · rw [fillL_all, ← HN.out]; rfl
      clear r0 r1 r2 rk
      go_wp2
      go_ret2
      exact R.out
end Go.Proofs.Yteanpgkonhdbpaa
