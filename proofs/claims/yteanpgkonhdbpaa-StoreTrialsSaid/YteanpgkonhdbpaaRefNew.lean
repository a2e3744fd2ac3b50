/- ref06.New, walked. -/
import Derived.Test.YteanpgkonhdbpaaRef06c
import Derived.Test.YteanpgkonhdbpaaFlashNew
import Derived.Deep.DeepCutAuto
namespace Go.Proofs.Yteanpgkonhdbpaa
open Go.RowKit

set_option maxRecDepth 100000 in
set_option maxHeartbeats 1000000 in
theorem rnew_no (s n l : Int) (w : World) (h : newOk s n l = false) :
    Calls Try.prog 25 #[.int .i64 s, .int .i64 n, .int .i64 l] w fun e w' => e = .returned (.tuple #[.agg zeroD, .int .i64 64]) ∧ Keep [] w w' := by
  have HA : Hid (AggOf Try.prog 57 10) := agg_ref
  have b1 : Blk (w.alloc (.cells zeroD 57)) w.heap.size 57 zeroD := Blk.new _ _ _
  have B1 := Lib.hid b1
  clear b1
  rcases newOk_cases h with h1 | ⟨h1, h2⟩ | ⟨h1, h2, h3⟩ | ⟨h1, h2, h3, h4⟩ | ⟨h1, h2, h3, h4, h5⟩ | ⟨h1, h2, h3, h4, h5, h6⟩
  all_goals
    clear h
    go_enter Try.func25, Try.ntmps25
    go_wp2_with (refine wpList_store_all rfl 57 (.tmp 6) (.tmp 32) rfl rfl rfl (t := 57) (cs := zeroD) (vs := zeroD.toList) HA.out.2 ?_ (by simp [Value.oneCell']) rfl ?_; exact B1.out; intro w2 d1 k2)
    refine bodyPost_ret (results_blk_tmp rfl _ rfl rfl d1 HA.out) rfl ⟨rfl, ?_⟩
    exact ((Keep.refl [] w).alloc _).trans k2 (by simp)

def RetRNew (w : World) (d : Dev) (e : Ending) (w' : World) : Prop := ∃ A1 A2 c1 c2, e = .returned (.tuple #[.agg (refV d A1 A2 c1 c2).toArray, .int .i64 0]) ∧ RefOwn w.heap.size w' A1 A2 c1 c2 d ∧ Keep [] w w'

theorem run_make_int (n : Nat) (h : n ≤ 1000000) (w : World) : (Instr.makeSlice 55 (.int .i64 (n : Int)) (.int .i64 (n : Int))).run Try.prog w = .ok (.slice (some ⟨w.heap.size, 0, none⟩) n n) (w.alloc (.cells (List.replicate n (.int .i64 0)).toArray 3)) := by
  have := run_make_row' (P := Try.prog) 55 3 _ 8 Try.underlying55 info_int06 rfl .i64 .i64 n (by omega) (by omega) w
  rwa [madeCells_rep] at this
theorem run_make_u32 (n : Nat) (h : n ≤ 1000000) (w : World) : (Instr.makeSlice 54 (.int .i64 (n : Int)) (.int .i64 (n : Int))).run Try.prog w = .ok (.slice (some ⟨w.heap.size, 0, none⟩) n n) (w.alloc (.cells (List.replicate n (.int .u32 0)).toArray 33)) := by
  have := run_make_row' (P := Try.prog) 54 33 _ 4 Try.underlying54 info_u32 rfl .i64 .i64 n (by omega) (by omega) w
  rwa [madeCells_rep] at this

theorem alloc3 (w0 : World) (a b c : Array Value) (ta tb tc : TypeId) : Blk (((w0.alloc (.cells a ta)).alloc (.cells b tb)).alloc (.cells c tc)) w0.heap.size ta a ∧ Blk (((w0.alloc (.cells a ta)).alloc (.cells b tb)).alloc (.cells c tc)) (w0.heap.size + 1) tb b ∧
    Blk (((w0.alloc (.cells a ta)).alloc (.cells b tb)).alloc (.cells c tc)) (w0.heap.size + 1 + 1) tc c ∧ Keep [] w0 (((w0.alloc (.cells a ta)).alloc (.cells b tb)).alloc (.cells c tc)) := by
  refine ⟨((Blk.new _ _ _).alloc _).alloc _, ?_, ?_, (((Keep.refl _ w0).alloc _).alloc _).alloc _⟩
  · have := Blk.new (w0.alloc (.cells a ta)) tb b
    rw [World.size_alloc] at this
    exact this.alloc _
  · have := Blk.new ((w0.alloc (.cells a ta)).alloc (.cells b tb)) tc c
    rw [World.size_alloc, World.size_alloc] at this
    exact this

def RNewAt (w0 : World) (s n l N : Nat) (v8 : Value) (wx : World) : Prop := ∃ g b1 b2, v8 = .pointer (some ⟨g, 0, none⟩) ∧ w0.heap.size ≤ g ∧ w0.heap.size ≤ b1 ∧ w0.heap.size ≤ b2 ∧ Blk wx b1 33 (Array.replicate N (Value.int .u32 0)) ∧ Blk wx b2 3 (Array.replicate s (Value.int .i64 0)) ∧
  Blk wx g 57 #[.int .i64 s, .int .i64 n, .int .i64 l, .slice (some ⟨b1, 0, none⟩) N N, .slice (some ⟨b2, 0, none⟩) s s, .bool false, .bool false, .int .i64 0, .int .u32 0, .int .i64 0] ∧ Keep [] w0 wx

set_option maxRecDepth 100000 in
set_option maxHeartbeats 1000000 in
theorem rnew_yes (s n l : Nat) (w : World) (h1 : 1 ≤ s) (h2 : s ≤ 64) (h3 : 1 ≤ n) (h4 : n ≤ 1024) (h6 : l ≤ 1048576) :
    Calls Try.prog 25 #[.int .i64 s, .int .i64 n, .int .i64 l] w (RetRNew w (newD s n l)) := by
  have hm : s * n ≤ 65536 := Nat.le_trans (Nat.mul_le_mul h2 h4) (by decide)
  have hM : (s : Int) * (n : Int) = ((s * n : Nat) : Int) := by rw [Int.natCast_mul]
  obtain ⟨N, hN⟩ : ∃ N, s * n = N := ⟨_, rfl⟩
  have HN := Lib.hid hN
  rw [hN] at hm hM
  clear hN
  have HM := Lib.hid hM
  have HMK1 := Lib.hid (run_make_u32 N (by omega))
  have HMK2 := Lib.hid (run_make_int s (by omega))
  have B6 := Lib.hid (Blk.new w 57 zeroD)
  have K6 := Lib.hid ((Keep.refl [] w).alloc (.cells zeroD 57))
  have hsz : w.heap.size < (w.alloc (.cells zeroD 57)).heap.size := by simp
  have HA : Hid (AggOf Try.prog 57 10) := agg_ref
  generalize hW0 : w.alloc (.cells zeroD 57) = W0 at B6 K6 hsz
  have HW0 := Lib.hid hW0
  clear hW0
  go_enter Try.func25, Try.ntmps25
  clear hM
  go_upto_region 3 with (rw [HW0.out])
  go_cut [8] (fun v8 wx => RNewAt W0 s n l N v8 wx)
  case first =>
    have hM := HM.out
    have hmk1 := HMK1.out
    have hmk2 := HMK2.out
    clear hsz
    go_region
    all_goals go_wp2_with fail
    all_goals go_meet
    all_goals first
      | exact ⟨_, _, _, rfl, (by omega), (by omega), (by omega), (alloc3 W0 _ _ _ _ _ _).1.drew, (alloc3 W0 _ _ _ _ _ _).2.1.drew, (alloc3 W0 _ _ _ _ _ _).2.2.1.drew, (alloc3 W0 _ _ _ _ _ _).2.2.2.drew⟩
      | exact ⟨_, _, _, rfl, (by omega), (by omega), (by omega), (alloc3 W0 _ _ _ _ _ _).1.drew, (alloc3 W0 _ _ _ _ _ _).2.2.1.drew, (alloc3 W0 _ _ _ _ _ _).2.1.drew, (alloc3 W0 _ _ _ _ _ _).2.2.2.drew⟩
      | exact ⟨_, _, _, rfl, (by omega), (by omega), (by omega), (alloc3 W0 _ _ _ _ _ _).2.1.drew, (alloc3 W0 _ _ _ _ _ _).1.drew, (alloc3 W0 _ _ _ _ _ _).2.2.1.drew, (alloc3 W0 _ _ _ _ _ _).2.2.2.drew⟩
      | exact ⟨_, _, _, rfl, (by omega), (by omega), (by omega), (alloc3 W0 _ _ _ _ _ _).2.1.drew, (alloc3 W0 _ _ _ _ _ _).2.2.1.drew, (alloc3 W0 _ _ _ _ _ _).1.drew, (alloc3 W0 _ _ _ _ _ _).2.2.2.drew⟩
      | exact ⟨_, _, _, rfl, (by omega), (by omega), (by omega), (alloc3 W0 _ _ _ _ _ _).2.2.1.drew, (alloc3 W0 _ _ _ _ _ _).1.drew, (alloc3 W0 _ _ _ _ _ _).2.1.drew, (alloc3 W0 _ _ _ _ _ _).2.2.2.drew⟩
      | exact ⟨_, _, _, rfl, (by omega), (by omega), (by omega), (alloc3 W0 _ _ _ _ _ _).2.2.1.drew, (alloc3 W0 _ _ _ _ _ _).2.1.drew, (alloc3 W0 _ _ _ _ _ _).1.drew, (alloc3 W0 _ _ _ _ _ _).2.2.2.drew⟩
  case rest =>
    obtain ⟨g, b1, b2, rfl, hg, hb1, hb2, r1, r2, r0, rk⟩ := hcut
    have HG : Hid (w.heap.size < W0.heap.size) := hsz
    have R1 : Blk wc b1 33 (wordsV (fillL N 0)).toArray := Blk.cast r1 (by simp [wordsV, fillL_zero])
    have R2 : Blk wc b2 3 (natsV (List.replicate s 0)).toArray := Blk.cast r2 (by simp [natsV])
    have RK := Lib.hid rk
    have R0 := Lib.hid r0
    have H1 := Lib.hid R1
    have H2 := Lib.hid R2
    clear r1 r2 rk R1 R2 r0 hsz
    go_wp2
    go_loopw [9] (fun vi wr => ∃ k : Nat, k ≤ N ∧ vi = .int .i64 k ∧ Blk wr b1 33 (wordsV (fillL N k)).toArray ∧ Blk wr g 57 #[.int .i64 s, .int .i64 n, .int .i64 l, .slice (some ⟨b1, 0, none⟩) N N, .slice (some ⟨b2, 0, none⟩) s s, .bool false, .bool false, .int .i64 0, .int .u32 0, .int .i64 0] ∧ Blk wr b2 3 (natsV (List.replicate s 0)).toArray ∧ Keep [] W0 wr) (fun vi _ => N - (intOf vi).toNat)
    case atStart => exact ⟨0, Nat.zero_le _, rfl, H1.out, R0.out, H2.out, RK.out⟩
    case round =>
      obtain ⟨k, hk, rfl, r1, r0, r2, rk⟩ := hrel
      have hc3 := r0.cell 3
      simp at hc3
      by_cases hlt : k < N
      · have hlen := fillL_len N k (by omega)
        have hc2 : ∃ x : Nat, wr.cell? ⟨b1, k, none⟩ = some (.int .u32 (x : Int)) := by
          rw [r1.cell k]
          exact ⟨(fillL N k)[k]'(by omega), by simp [hlen, hlt]⟩
        obtain ⟨x, hc2⟩ := hc2
        have hf2 := r1.frozen k
        have ne0 : g ≠ b1 := r0.ne_ r1 (by decide)
        have ne2 : b2 ≠ b1 := r2.ne_ r1 (by decide)
        have N1 := Lib.hid (Blk.cast (r1.set_ k (.int .u32 4294967295)) (show _ = (wordsV (fillL N (k + 1))).toArray by rw [← fillL_set N k hlt]; exact wordsV_set _ k 4294967295))
        have N0 := Lib.hid (r0.far (p := ⟨b1, k, none⟩) ne0 (.int .u32 4294967295))
        have N2 := Lib.hid (r2.far (p := ⟨b1, k, none⟩) ne2 (.int .u32 4294967295))
        have NK := Lib.hid (rk.setCell (p := ⟨b1, k, none⟩) (by simp; omega) (.int .u32 4294967295))
        clear r0 r1 r2 rk hlen ne0 ne2
        go_wp2
        go_roundw
        case rel => exact ⟨k + 1, by omega, by go_num, N1.out, N0.out, N2.out, NK.out⟩
        case measure => simp [intOf] <;> omega
      · obtain rfl : k = N := by omega
        have HN' := HN.out
        have L0 : Hid (Blk wr g 57 (refV (newD s n l) (some ⟨b1, 0, none⟩) (some ⟨b2, 0, none⟩) k s).toArray) := Blk.cast r0 (by simp [refV, newD, HN'])
        have D6 := Lib.hid (B6.out.keep0 rk)
        have O1 : Hid (wr.ownsRow w.heap.size 33 1 (.slice (some ⟨b1, 0, none⟩) (newD s n l).bits.length k) (newD s n l).bits.length (wordsV (newD s n l).bits)) := by
          have e1 : (newD s n l).bits = fillL k k := by rw [fillL_all]; simp [newD, HN']
          rw [e1]
          refine ⟨by simp, .inr ⟨b1, k, _, by rw [fillL_len k k (Nat.le_refl _)], by have := HG.out; omega, r1, by rw [fillL_len k k (Nat.le_refl _)]; exact Nat.le_refl _, by unfold maxLen; omega, by simp [fillL_len k k (Nat.le_refl _)], by rw [Nat.mul_one]; exact List.take_of_length_le (by simp)⟩⟩
        have O2 : Hid (wr.ownsRow w.heap.size 3 1 (.slice (some ⟨b2, 0, none⟩) (newD s n l).worn.length s) (newD s n l).worn.length (natsV (newD s n l).worn)) := by
          refine ⟨by simp, .inr ⟨b2, s, _, rfl, by have := HG.out; omega, r2, by simp [newD], by unfold maxLen; omega, by simp, by simp [newD]⟩⟩
        have RK2 := Lib.hid (K6.out.then rk)
        have hgs := HG.out
        have ne6 : Hid (w.heap.size ≠ b1 ∧ w.heap.size ≠ b2) := ⟨by omega, by omega⟩
        clear r0 r1 r2 rk HN' hgs
        go_wp2_with (first
          | (refine wpList_load_agg rfl 57 (.tmp 8) rfl rfl (cs := refV (newD s n l) (some ⟨b1, 0, none⟩) (some ⟨b2, 0, none⟩) k s) HA.out ?_ ?_; exact L0.out.cellsAt)
          | (refine wpList_store_all rfl 57 (.tmp 6) (.tmp 54) rfl rfl rfl (t := 57) (cs := zeroD) (vs := refV (newD s n l) (some ⟨b1, 0, none⟩) (some ⟨b2, 0, none⟩) k s) HA.out.2 ?_ (refV_one _ _ _ _ _) rfl ?_; exact D6.out; intro w2 d1 k2))
        refine bodyPost_ret (results_blk_tmp rfl _ rfl rfl d1 HA.out) rfl ⟨_, _, _, _, rfl, ⟨own_keep O1.out k2 (fun y hy hm => ?_), own_keep O2.out k2 (fun y hy hm => ?_)⟩, RK2.out.trans k2 (by simp)⟩
        · simp [Value.ownBlock] at hy hm
          exact ne6.out.1 (by omega)
        · simp [Value.ownBlock] at hy hm
          exact ne6.out.2 (by omega)
end Go.Proofs.Yteanpgkonhdbpaa
