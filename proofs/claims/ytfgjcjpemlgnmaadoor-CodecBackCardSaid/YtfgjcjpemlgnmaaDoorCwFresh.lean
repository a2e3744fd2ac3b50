/- The tasks that an edge brings, as codec tells them; no condition. -/
import Derived.Test.YtfgjcjpemlgnmaaDoorCwMode
namespace Go.Proofs.YtfgjcjpemlgnmaaDoor
open Go.RowKit

theorem freshN_lt (x : Img) (e : Edg) (h : x.Ok) : freshN x e < 4294967296 := minusN_lt _ _ (setOf10_lt x _ h)
set_option maxRecDepth 100000 in
set_option maxHeartbeats 400000 in
theorem fresh_any (v : ImgV) (x : Img) (ed : Edg) (w : World) (h : ImgAt w v x) (_ho : ed.offs.length = 16) (_hm : ed.mp.length = 4) :
    Calls Tryd.prog 41 #[.agg (imgCells v x).toArray, .agg (edgCells ed).toArray] w fun e w' => e = .returned (.int .u32 (freshN x ed : Nat)) ∧ Keep [] w w' := by
  have HT1 := fun W hk => Lib.hid (tasks_any v x ed.to W (h.keep0 hk))
  have HT2 := fun W hk => Lib.hid (tasks_any v x ed.frm W (h.keep0 hk))
  have HU : Hid (bits .andNot .u32 (setOf10 x ed.to : Int) (setOf10 x ed.frm : Int) = ((freshN x ed : Nat) : Int)) := u32_andNot_nat _ _ (setOf10_lt x _ h.ok) (setOf10_lt x _ h.ok)
  have HIL : Hid ((imgCells v x).length = 4) := show _ = _ from rfl
  obtain ⟨W1, hW1⟩ : ∃ W1, (w.alloc (.cells (imgCells v x).toArray 26)).alloc (.cells (edgCells ed).toArray 70) = W1 := ⟨_, rfl⟩
  have b0 : Blk W1 w.heap.size 26 (imgCells v x).toArray := by rw [← hW1]; exact (Blk.new _ _ _).alloc _
  have b1 : Blk W1 (w.heap.size + 1) 70 (edgCells ed).toArray := by
    rw [← hW1]; have := Blk.new (w.alloc (.cells (imgCells v x).toArray 26)) 70 (edgCells ed).toArray; rwa [World.size_alloc] at this
  have K1 : Keep [] w W1 := by rw [← hW1]; exact ((Keep.refl _ w).alloc _).alloc _
  have hF : ∀ w', Keep [] W1 w' → CellsAt w' w.heap.size 0 (imgCells v x) ∧ w'.cell? ⟨w.heap.size + 1, 1, none⟩ = some (.int .i64 ed.to) ∧ w'.cell? ⟨w.heap.size + 1, 0, none⟩ = some (.int .i64 ed.frm) := fun w' k => by
    have c0 := b0.keep k (by simp)
    have c1 := b1.keep k (by simp)
    exact ⟨c0.cellsAt, by rw [c1.cell]; rfl, by rw [c1.cell]; rfl⟩
  have hKK : ∀ w', Keep [] W1 w' → Keep [] w w' := fun w' k => K1.then k
  clear h b0 b1
  generalize setOf10 x ed.to = s1 at *
  generalize setOf10 x ed.frm = s2 at *
  generalize imgCells v x = il at *
  have HW := Lib.hid hW1
  clear hW1
  generalize ed.to = eto at *
  generalize ed.frm = efr at *
  generalize hce : (edgCells ed).toArray = ce at *
  go_enter Tryd.func41, Tryd.ntmps41
  go_wp2
  rw [HW.out]
  refine wp_region_flow (Keep [] W1) rfl (by kernel_rfl) (Keep.refl _ _).drew ?_
  refine fl_agg 26 (.tmp 2) il rfl rfl rfl (by rw [HIL.out]; exact agg_image) (fun w' hw => (hF w' hw).1) ?_
  simp only [Act.put, List.setIfInBounds_toArray, List.set_cons_zero, List.set_cons_succ]
  repeat (refine fl_val (v := ?_) (by rfl) ?_ ?_; rotate_left; (intro w' hS; obtain ⟨f1,f2,f3⟩ := hF w' hS; go_simp; with_reducible rfl); simp only [Act.put, List.setIfInBounds_toArray, List.set_cons_zero, List.set_cons_succ])
  refine fl_call (f := 47) (v := .int .u32 (s1 : Int)) (by rfl) rfl (by simp only [List.map_toArray, List.map_cons, List.map_nil]; rfl) Tryd.func47 (by kernel_rfl) (by kernel_rfl) (fun w' hS => ((HT1 w' (hKK w' hS)).out.mono (fun e w'' h => ⟨h.1, hS.then h.2⟩))) ?_; simp only [Act.put, List.setIfInBounds_toArray, List.set_cons_zero, List.set_cons_succ]
  refine fl_agg 26 (.tmp 2) il rfl rfl rfl (by rw [HIL.out]; exact agg_image) (fun w' hw => (hF w' hw).1) ?_
  simp only [Act.put, List.setIfInBounds_toArray, List.set_cons_zero, List.set_cons_succ]
  repeat (refine fl_val (v := ?_) (by rfl) ?_ ?_; rotate_left; (intro w' hS; obtain ⟨f1,f2,f3⟩ := hF w' hS; go_simp; with_reducible rfl); simp only [Act.put, List.setIfInBounds_toArray, List.set_cons_zero, List.set_cons_succ])
  refine fl_call (f := 47) (v := .int .u32 (s2 : Int)) (by rfl) rfl (by simp only [List.map_toArray, List.map_cons, List.map_nil]; rfl) Tryd.func47 (by kernel_rfl) (by kernel_rfl) (fun w' hS => ((HT2 w' (hKK w' hS)).out.mono (fun e w'' h => ⟨h.1, hS.then h.2⟩))) ?_; simp only [Act.put, List.setIfInBounds_toArray, List.set_cons_zero, List.set_cons_succ]
  repeat (refine fl_val (v := ?_) (by rfl) ?_ ?_; rotate_left; (intro w' hS; obtain ⟨f1,f2,f3⟩ := hF w' hS; go_simp; with_reducible rfl); simp only [Act.put, List.setIfInBounds_toArray, List.set_cons_zero, List.set_cons_succ])
  refine fl_nil ?_
  intro w' hS
  go_wp2
  go_ret
  exact ⟨congrArg (fun n => Ending.returned (.int .u32 n)) HU.out, K1.then hS⟩
end Go.Proofs.YtfgjcjpemlgnmaaDoor
