/- A new engine; walked. Condition: an image of small size. -/
import Derived.Test.YteflgdnekflbbaaDoorEngH
import Derived.Test.YteflgdnekflbbaaDoorImgCp
namespace Go.Proofs.YteflgdnekflbbaaDoor
open Go.RowKit
attribute [local go_sem] Oper.semAt_some

def newS : EnS := ⟨0, none, 0, 0, 0, none, 0, []⟩
set_option maxRecDepth 100000 in
theorem build_eng (v : ImgV) (x : Img) (vc : CrtV) (c : Crt) (w : World) : (Instr.build 69 #[(0, .agg (imgCells v x).toArray), (1, .agg (crtCells vc c).toArray), (3, .int .i64 (-1)), (7, .int .i64 (-1))]).run Tryd.prog w = .ok (.agg (engL v x vc c newS none).toArray) w := by
  kernel_rfl
set_option maxRecDepth 100000 in
theorem enew_any (v : ImgV) (x : Img) (vc : CrtV) (c : Crt) (w : World) (G : List Nat) (hG : ∀ y ∈ G, y < w.heap.size) (hTb : ∀ w2, Keep G w w2 → Tab w2) (h : ImgAt w v x) (hc : ∀ w2, Keep G w w2 → CrtE w2 vc c) (g1 : x.tasks.length ≤ 40) (g2 : x.modes.length ≤ 20) (g3 : x.edges.length ≤ 60) (g4 : ∀ m ∈ x.modes, m.qs.length ≤ 20) :
    Calls Tryd.prog 14 #[.agg (imgCells v x).toArray, .agg (crtCells vc c).toArray] w fun e w' => ∃ b v', e = .returned (.pointer (some ⟨b, 0, none⟩)) ∧ w.heap.size ≤ b ∧ (∀ w2, Keep G w' w2 → EngAt w2 b v' x vc c newS []) ∧ Keep [] w w' := by
  obtain ⟨W0, hW0⟩ : ∃ W0, (w.alloc (.cells (imgCells v x).toArray 26)).alloc (.cells (crtCells vc c).toArray 54) = W0 := ⟨_, rfl⟩
  have b0 : Blk W0 w.heap.size 26 (imgCells v x).toArray := by rw [← hW0]; exact (img_box w v x).alloc _
  have b1 : Blk W0 (w.heap.size + 1) 54 (crtCells vc c).toArray := by rw [← hW0]; exact Blk.new1 _ _ _ _
  have K0 : Keep [] w W0 := by rw [← hW0]; exact ((Keep.refl _ w).alloc _).alloc _
  have HCP := fun W (k : Keep [] W0 W) => Lib.hid (copy_any v x W (h.keep0 (K0.then k)) g1 g2 g3 g4)
  have HI : ∀ w', Keep [] W0 w' → CellsAt w' w.heap.size 0 (imgCells v x) := fun w' k => (b0.keep0 k).cellsAt
  have HC : ∀ w', Keep [] W0 w' → CellsAt w' (w.heap.size + 1) 0 (crtCells vc c) := fun w' k => (b1.keep0 k).cellsAt
  have HW := Lib.hid hW0
  have HK0 := Lib.hid K0
  have HCR := Lib.hid hc
  have HTB := Lib.hid hTb
  have HB := fun v' W => Lib.hid (build_eng v' x vc c W)
  have HIL : Hid ((imgCells v x).length = 4) := show _ = _ from rfl
  have HCL : Hid ((crtCells vc c).length = 2) := show _ = _ from rfl
  clear h hc hTb b0 b1 K0 hW0 g1 g2 g3 g4
  generalize imgCells v x = il at *
  generalize hcl : crtCells vc c = cl at *
  go_enter Tryd.func14, Tryd.ntmps14
  go_upto_region 1 with (rw [HW.out])
  refine ap_begin 5 (Keep [] W0) rfl (Keep.refl _ _).drew (fun hS hPan => ?_) (fun _ _ d _ _ h => by cases d <;> exact h)
  refine ap_agg 0 26 (.tmp 2) il rfl (by kernel_rfl) (by kernel_rfl) (by kernel_rfl) (by kernel_rfl) (by rfl) hPan rfl rfl (by rw [HIL.out]; exact agg_image) HI hS ?_
  (simp only [Act.put, List.setIfInBounds_toArray, List.set_cons_zero, List.set_cons_succ])
  refine ap_agg 2 54 (.tmp 3) cl rfl (by kernel_rfl) (by kernel_rfl) (by kernel_rfl) (by kernel_rfl) (by rfl) hPan rfl rfl (by rw [HCL.out]; exact agg_cert) HC hS ?_
  (simp only [Act.put, List.setIfInBounds_toArray, List.set_cons_zero, List.set_cons_succ])
  generalize W0.drew = wd at *
  have hS0 := hS
  refine ap_one 1 (by kernel_rfl) ?_
  refine op_call (f := 29) 1 rfl (by rfl) rfl (by simp only [List.map_toArray, List.map_cons, List.map_nil]; rfl) Tryd.func29 (by kernel_rfl) (by kernel_rfl) (HCP _ hS).out ?_
  rintro e2 w1 ⟨v', rfl, hcp, k1⟩
  replace hS := hS.then k1
  refine ⟨_, rfl, fun _ => hS, ?_⟩
  (simp only [Act.put, List.setIfInBounds_toArray, List.set_cons_zero, List.set_cons_succ])
  refine ap_val (v := .agg (engL v' x vc c newS none).toArray) 3 rfl (by kernel_rfl) (by kernel_rfl) (by kernel_rfl) (by kernel_rfl) (by rfl) hPan (fun w' _ => by
    have hb := (HB v' w').out
    simp only [execOp, Sem.run_bind, List.map_toArray, List.map_cons, List.map_nil]
    change Result.andThen ((Instr.build 69 #[(0, .agg (imgCells v' x).toArray), (1, .agg cl.toArray), (3, .int .i64 (-1)), (7, .int .i64 (-1))]).run Tryd.prog w') _ = _
    rw [hb]; rfl) hS ?_
  (simp only [Act.put, List.setIfInBounds_toArray, List.set_cons_zero, List.set_cons_succ])
  refine ap_one 4 (by kernel_rfl) ?_
  refine op_run (v := .pointer (some ⟨w1.heap.size, 0, none⟩)) (w' := w1.alloc (.cells (engL v' x vc c newS none).toArray 69)) 4 rfl (by rfl) (by go_simp) ?_
  have hcpb := hS0.size
  have E1 : ∀ w2, Keep G (w1.alloc (.cells (engL v' x vc c newS none).toArray 69)) w2 → EngAt w2 w1.heap.size v' x vc c newS [] := fun w2 k2 => by
    have hk0 := (Keep.refl [] w1).alloc (.cells (engL v' x vc c newS none).toArray 69)
    have hw1 : w.heap.size ≤ w1.heap.size := (HK0.out.then hS).size
    have hkG : ∀ w', Keep [w1.heap.size] w2 w' → Keep G w1 w' := fun w' k => ((hk0.mono (by simp)).trans k2 (fun y hy _ => hy)).trans k (fun y hy hlt => by simp at hy; omega)
    refine ⟨⟨none, (Blk.new _ _ _).keep k2 (fun hm => by have := hG _ hm; omega), ⟨none, rfl, rfl⟩, rfl, List.nodup_nil, by simp, List.Pairwise.nil, fun p hp => by cases hp⟩, fun w' k => ?_, fun w' k => ?_, fun w' k => ?_⟩
    · exact (hcp.keep (hkG w' k) (fun y hy => by have := hG y hy; have := HK0.out.size; omega)).img
    · exact HCR.out w' (((HK0.out.then hS).mono (by simp)).trans (hkG w' k) (fun y hy _ => hy))
    · exact HTB.out w' (((HK0.out.then hS).mono (by simp)).trans (hkG w' k) (fun y hy _ => hy))
  have hS2 := hS.alloc (.cells (engL v' x vc c newS none).toArray 69)
  have hge := hS.size
  generalize w1.alloc (.cells (engL v' x vc c newS none).toArray 69) = w2 at *
  generalize w1.heap.size = g at *
  refine ⟨fun _ => hS2, ?_⟩
  (simp only [Act.put, List.setIfInBounds_toArray, List.set_cons_zero, List.set_cons_succ])
  refine ap_one 5 (by kernel_rfl) ?_
  refine op_run (v := .pointer (some ⟨g, 0, none⟩)) (w' := w2) 5 rfl (by rfl) (by go_simp) ?_
  refine ⟨fun _ => hS2, ap_done (by kernel_rfl) ?_ _⟩
  (simp only [Act.put, List.setIfInBounds_toArray, List.set_cons_zero, List.set_cons_succ])
  have E1h := Lib.hid E1
  have K2 := Lib.hid (HK0.out.then hS2)
  have hgw : w.heap.size ≤ g := Nat.le_trans HK0.out.size hge
  clear hPan E1 hS2 hS hS0 k1 hcp HI HC HCP HB
  go_wp2
  go_ret
  exact ⟨g, v', rfl, hgw, E1h.out, K2.out⟩
end Go.Proofs.YteflgdnekflbbaaDoor
