/- The set of a task's resources, as codec gathers it; no condition. -/
import Derived.Test.YtfgjcjpemlgnmaaDoorHands
namespace Go.Proofs.YtfgjcjpemlgnmaaDoor
open Go.RowKit
attribute [local go_sem] Oper.semAt_some

set_option maxRecDepth 100000 in
set_option maxHeartbeats 400000 in
theorem cuses_any (t : Tsk) (w : World) (hl8 : t.lon.length = 8) : Calls Tryd.prog 48 #[.agg (tskCells t).toArray] w fun e w' => e = .returned (.int .u32 (usesB t.lon 8 : Nat)) ∧ Keep [] w w' := by
  have HA : Hid (AggOf Tryd.prog 57 (tskCells t).length) := by show AggOf _ _ _; rw [tskCells_len hl8]; exact agg_task
  rw [← callsIn_wide (n := 9)]
  refine callsIn_of_wp_marks Tryd.func48 rfl trivial ?_ rfl
  simp only [Tryd.ntmps48, List.size_toArray, List.length_cons, List.length_nil, Nat.reduceAdd, Nat.reduceSub, Array.replicate_succ, Array.replicate_zero, List.push_toArray, List.append_toArray, List.nil_append, List.cons_append]
  obtain ⟨W1, hW1⟩ : ∃ W1, (w.alloc (.cells (tskCells t).toArray 57)).alloc (.cells #[.int .u32 0] 86) = W1 := ⟨_, rfl⟩
  have hsz1 : W1.heap.size = w.heap.size + 2 := by rw [← hW1]; simp
  have c0 : Blk W1 w.heap.size 57 (tskCells t).toArray := by rw [← hW1]; exact (Blk.new _ _ _).alloc _
  have c1 : Blk W1 (w.heap.size + 1) 86 #[.int .u32 0] := by
    rw [← hW1]; have := Blk.new (w.alloc (.cells (tskCells t).toArray 57)) 86 #[.int .u32 0]; rwa [World.size_alloc] at this
  have K1 : Keep [] w W1 := by rw [← hW1]; exact ((Keep.refl _ w).alloc _).alloc _
  have HW := Lib.hid hW1
  have HCA : Hid (CellsAt W1 w.heap.size 0 (tskCells t)) := c0.cellsAt
  clear hW1
  gi_wp2_with (first
    | (rw [HW.out]; refine wpListIn_agg rfl 57 (.tmp 1) rfl rfl (cs := tskCells t) HA.out HCA.out ?_)
    | (refine ⟨trivial, ?_⟩; gi_at_call 49; refine (callsIn_wide.2 (uses_any t _)).mono ?_; rintro e w' ⟨rfl, rfl⟩))
  obtain ⟨W0, hW0⟩ : ∃ W0, W1.alloc (.cells (tskCells t).toArray 57) = W0 := ⟨_, rfl⟩
  have hsz : W0.heap.size = w.heap.size + 3 := by rw [← hW0]; simp [hsz1]
  have b1 : Blk W0 (w.heap.size + 1) 86 #[.int .u32 0] := by rw [← hW0]; exact c1.alloc _
  have b2 : Blk W0 (w.heap.size + 2) 57 (tskCells t).toArray := by rw [← hW0, ← hsz1]; exact Blk.new _ _ _
  have K0 : Keep [] w W0 := by rw [← hW0]; exact K1.alloc _
  simp only [hW0]
  clear HW HCA HA c0 c1 K1
  have hss := uses1_seq 8 t (w.heap.size + 2) W0 (by omega) b2 hl8
  have HU := Lib.hid (foldU_uses t.lon 8 (by omega))
  generalize (tskCells t).toArray = cs at *
  refine wpIn_rangeT (F := Fence.wide) (n := 9) (Lo := fun _ _ => False) (ps := #[7, 8]) rfl (by omega) (gf := 54) (lb := #[.pointer (some ⟨w.heap.size + 2, 0, none⟩)]) rfl trivial (enters_of Tryd.func54 (by kernel_rfl) rfl)
    (hss.toT _) Same.trans (fun W _ o' _ _ => Same.putO (by simp; omega) o') (Below.refl _ _) (fun _ => rfl)
    (fun pre W => Blk W (w.heap.size + 1) 86 #[.int .u32 (foldU pre : Nat)] ∧ Keep [w.heap.size + 1] W0 W)
    (fun _ _ _ => False)
    ?hI ?hIx ⟨b1, Keep.refl _ _⟩
    (fun x => { tmps := #[.agg cs, .pointer (some ⟨w.heap.size, 0, none⟩), .int .u32 0, .pointer (some ⟨w.heap.size + 1, 0, none⟩), .int .i64 x.1, .agg cs, .func (.func 54) #[] #[.pointer (some ⟨w.heap.size + 2, 0, none⟩)], .int .i64 x.1, .int .i64 x.2,
      undef, undef, undef, undef], defers := [] }) ?assign ?body ?done ?stop
  case hI =>
    exact OwnFrom.toT (OwnFrom.and (blk_own _ _ _) (keep_own (by omega)))
  case hIx => exact fun _ _ _ _ _ hs _ _ => hs
  case assign =>
    intro l x W K hK
    simp only [encPII]
    gi_wp2
    exact hK
  case body =>
    rintro l0 pre x W ⟨hb, hK⟩ hpre
    have hc := hb.cell 0
    have hf := hb.frozen 0
    simp at hc
    have HWi := Lib.hid (with_any (foldU pre) x.1 W (foldU_lt pre))
    rw [← foldU_snoc] at HWi
    gi_wp2_with (refine ⟨trivial, ?_⟩; gi_at_call 43; refine (callsIn_wide.2 HWi.out).mono ?_; rintro e w' ⟨rfl, rfl⟩)
    have k2 := keep_set W (w.heap.size + 1) 0 (.int .u32 (foldU (pre ++ [x]) : Nat))
    exact ⟨k2.from (fun y hy => .inl (by simp at hy; omega)), Same.keep k2 (fun y hy => ⟨by have := hK.size; simp at hy; omega, by simp at hy ⊢; omega⟩), hb.set_ 0 _, hK.trans k2 (by simp)⟩
  case done =>
    rintro D W hD ⟨hb, hK⟩ hD2
    have hc := hb.cell 0
    simp at hc
    rw [HU.out] at hc
    gi_wp2
    refine ⟨by simp, .inl ⟨_, _, rfl, run_takeDeferred hD2, ?_⟩⟩
    exact ⟨_, results_tmp rfl _ _ _, rfl, (K0.trans hK (by intro y hy hlt; simp at hy; omega)).trans (keep_putObj W D (.deferred none)) (fun y hy hlt => by simp at hy; omega)⟩
  case stop => exact fun _ _ _ _ _ _ h _ => h.elim
end Go.Proofs.YtfgjcjpemlgnmaaDoor
