/- SensScales: the law's walk. Condition: the table of math/bits lies where the program's text lays it. -/
import Derived.Test.YtnnnjcgddmhdmaaGreatDoorSensT
import Derived.Test.YtnnnjcgddmhdmaaGreatDoorSmallR
import Derived.Test.YtnnnjcgddmhdmaaGreatDoorImgRS
import Derived.Test.YtnnnjcgddmhdmaaGreatDoorCertFew
namespace Go.Proofs.YtnnnjcgddmhdmaaGreatDoor
open Go.RowKit
attribute [local go_sem] Oper.semAt_some

theorem right_costs {x : Img} (hc : (chkImg x).2 = 0) : ∀ t ∈ x.tasks, 1 ≤ t.cost ∧ t.cost ≤ 4096 := fun t ht => by
  have h1 := (right_of hc).task t ht
  have hp := (small_of hc).per t ht
  unfold tskOk at h1
  simp only [Bool.and_eq_true, inR_iff] at h1
  omega
set_option maxRecDepth 100000 in
set_option maxHeartbeats 8000000 in
theorem sensScales_any (v : ImgV) (x : Img) (part : Int) (w : World) (hTb : Tab w) (h : ImgAt w v x) :
    Calls Tryz.prog 4 #[.agg (imgCells v x).toArray, .int .i64 part] w fun e w' => e = .returned (.bool true) ∧ Keep [] w w' := by
  obtain ⟨W0, hW0⟩ : ∃ W0, w.alloc (.cells (imgCells v x).toArray 26) = W0 := ⟨_, rfl⟩
  have b0 : Blk W0 w.heap.size 26 (imgCells v x).toArray := by rw [← hW0]; exact img_box w v x
  have K0 : Keep [] w W0 := by rw [← hW0]; exact (Keep.refl [] w).alloc _
  have HIC : Hid ((imgCells v x).length = 4) := show _ = _ from rfl
  have HCI := fun w' (k : Keep [] W0 w') => Lib.hid ((b0.keep0 k).cellsAt)
  have HF := Lib.hid (few21_any v x W0 (h.keep0 K0))
  have HRi := fun w' (k : Keep [] W0 w') => Lib.hid (right_any v x w' (h.keep0 (K0.then k)))
  have hfg : few21 x = true → FewOk x := fun hf => fewOk_of (by unfold few21 at hf; simp only [Bool.and_eq_true, Bool.not_eq_true'] at hf; exact hf.1)
  have HNo := fun (ha : admB x = false) w' (k : Keep [] W0 w') => Lib.hid (sscale_no v x w' (hTb.keep0 (K0.then k)) (h.keep0 (K0.then k)) ha)
  have HYes := fun (hG : FewOk x) (ha : admB x = true) w' (k' : Keep [] W0 w') => Lib.hid (sscale_yes v x w' (hTb.keep0 (K0.then k')) (h.keep0 (K0.then k')) hG ha)
  have HSc := fun (hG : FewOk x) (hC : ∀ t ∈ x.tasks, 1 ≤ t.cost ∧ t.cost ≤ 4096) w' (k' : Keep [] W0 w') => Lib.hid (sscaled_any v x part w' (h.keep0 (K0.then k')) hG hC)
  have HLc := fun (hG : FewOk x) (hC : ∀ t ∈ x.tasks, 1 ≤ t.cost ∧ t.cost ≤ 4096) (p : Int) (hp : 0 ≤ p ∧ p ≤ 100001) w' (k' : Keep [] W0 w') => Lib.hid (lscaled_any v x p w' (h.keep0 (K0.then k')) hG.t hC hp)
  have HRA := fun w' (k : Keep [] W0 w') => Lib.hid (radm_any v x w' (h.keep0 (K0.then k)))
  have HAl := fun w' (k : Keep [] W0 w') => Lib.hid (alive39 w' (hTb.keep0 (K0.then k)))
  have HK0 := Lib.hid K0
  have HW := Lib.hid hW0
  clear h K0 hW0 b0 hTb
  generalize imgCells v x = il at *
  cases hf : few21 x with
  | false =>
    rw [hf] at HF
    clear HNo HYes HRA HAl hfg HSc HLc HRi
    go_enter Tryz.func4, Tryz.ntmps4
    go_wp2_with (first
      | rw [HW.out]
      | (refine wpList_load_agg rfl 26 (.tmp 2) rfl rfl (cs := il) (by rw [HIC.out]; exact agg_image) (HCI _ (Keep.refl _ _)).out ?_))
    refine HF.out.mono ?_
    rintro e w1 ⟨rfl, k1⟩
    go_wp2
    go_ret
    exact ⟨rfl, HK0.out.then k1⟩
  | true =>
  rw [hf] at HF
  have hG := hfg hf
  clear hfg hf
  cases hr : ((chkImg x).2 == 0) with
  | false =>
    rw [hr] at HRi
    clear HNo HYes HRA HAl HSc HLc hr
    go_enter Tryz.func4, Tryz.ntmps4
    go_wp2_with (first
      | rw [HW.out]
      | (refine wpList_load_agg rfl 26 (.tmp 2) rfl rfl (cs := il) (by rw [HIC.out]; exact agg_image) (HCI _ (Keep.refl _ _)).out ?_))
    refine HF.out.mono ?_
    rintro e w1 ⟨rfl, k1⟩
    have hcI := HCI w1 k1
    have HR1 := HRi w1 k1
    have HK1 := Lib.hid (HK0.out.then k1)
    clear k1
    go_wp2_with (refine wpList_agg_gd rfl 26 (.tmp 2) rfl rfl (cs := il) (by rw [HIC.out]; exact agg_image) hcI.out ?_)
    refine HR1.out.mono ?_
    rintro e w2 ⟨rfl, k2⟩
    go_wp2
    go_ret
    exact ⟨rfl, HK1.out.then k2⟩
  | true =>
  rw [hr] at HRi
  have hC := right_costs (x := x) (by simpa using hr)
  replace HSc := HSc hG hC
  replace HLc := HLc hG hC
  replace HYes := HYes hG
  clear hr hG hC
  have hpc : (part < 0 ∧ min (max part 0) 100000 = 0) ∨ (¬ part < 0 ∧ 100000 < part ∧ min (max part 0) 100000 = 100000) ∨ (¬ part < 0 ∧ ¬ 100000 < part ∧ min (max part 0) 100000 = part) := by omega
  cases ha : admB x with
  | false =>
    rw [ha] at HRA
    replace HNo := HNo ha
    clear HYes ha
    go_enter Tryz.func4, Tryz.ntmps4
    go_wp2_with (first
      | rw [HW.out]
      | (refine wpList_load_agg rfl 26 (.tmp 2) rfl rfl (cs := il) (by rw [HIC.out]; exact agg_image) (HCI _ (Keep.refl _ _)).out ?_))
    refine HF.out.mono ?_
    rintro e w1 ⟨rfl, k1⟩
    have hcI := HCI w1 k1
    have HR1 := HRi w1 k1
    have HK1 := Lib.hid k1
    clear k1 HF
    go_wp2_with (refine wpList_agg_gd rfl 26 (.tmp 2) rfl rfl (cs := il) (by rw [HIC.out]; exact agg_image) hcI.out ?_)
    refine HR1.out.mono ?_
    rintro e w2 ⟨rfl, k2⟩
    have HK2 := Lib.hid (HK1.out.then k2)
    have hcI2 := HCI w2 HK2.out
    clear k2 HR1 hcI HRi
    rcases hpc with ⟨h1, hP⟩ | ⟨h1, h2, hP⟩ | ⟨h1, h2, hP⟩
    · have q0 : decide (part < 0) = true := decide_eq_true h1
      have HLp := fun w' k' => HLc 0 (by omega) w' k'
      rw [hP] at HSc
      clear hP
      go_wp2_with (refine wpList_load_agg rfl 26 (.tmp 2) rfl rfl (cs := il) (by rw [HIC.out]; exact agg_image) hcI2.out ?_)
      refine (HNo w2 HK2.out).out.mono ?_
      rintro e w4 ⟨rfl, k4⟩
      have HK4 := Lib.hid (HK2.out.then k4)
      clear k4 hcI2
      go_wp2_with fail
      have HCI4 : ∀ w', Keep [] w4 w' → CellsAt w' w.heap.size 0 il := fun w' k' => (HCI w' (HK4.out.then k')).out
      have HSc4 := fun w' (k : Keep [] w4 w') => HSc w' (HK4.out.then k)
      have HLp4 := fun w' (k : Keep [] w4 w') => HLp w' (HK4.out.then k)
      refine ap_begin 7 (Keep [] w4) rfl (Keep.refl _ _).drew (fun hS hPan => ?_) (fun _ _ d _ _ h => by cases d <;> exact h)
      refine ap_agg 0 26 (.tmp 2) il rfl (by kernel_rfl) (by kernel_rfl) (by kernel_rfl) (by kernel_rfl) (by rfl) hPan rfl rfl (by rw [HIC.out]; exact agg_image) HCI4 hS ?_
      (simp only [Act.put, List.setIfInBounds_toArray, List.set_cons_zero, List.set_cons_succ])
      (refine ap_val (v := ?_) 1 rfl (by kernel_rfl) (by kernel_rfl) (by kernel_rfl) (by kernel_rfl) (by rfl) hPan ?_ hS ?_; rotate_left; (intro w' hSw; go_simp; try with_reducible rfl); simp only [Act.put, List.setIfInBounds_toArray, List.set_cons_zero, List.set_cons_succ])
      refine ap_agg 3 26 (.tmp 2) il rfl (by kernel_rfl) (by kernel_rfl) (by kernel_rfl) (by kernel_rfl) (by rfl) hPan rfl rfl (by rw [HIC.out]; exact agg_image) HCI4 hS ?_
      (simp only [Act.put, List.setIfInBounds_toArray, List.set_cons_zero, List.set_cons_succ])
      (refine ap_val (v := ?_) 4 rfl (by kernel_rfl) (by kernel_rfl) (by kernel_rfl) (by kernel_rfl) (by rfl) hPan ?_ hS ?_; rotate_left; (intro w' hSw; go_simp; try with_reducible rfl); simp only [Act.put, List.setIfInBounds_toArray, List.set_cons_zero, List.set_cons_succ])
      refine ap_one 2 (by kernel_rfl) ?_
      refine op_call (f := 14) 2 rfl (by rfl) rfl (by simp only [List.map_toArray, List.map_cons, List.map_nil]; rfl) Tryz.func14 (by kernel_rfl) (by kernel_rfl) (HSc4 _ hS).out ?_
      rintro e w5 ⟨va, rfl, hIa, k5⟩
      replace hS := hS.then k5
      refine ⟨_, rfl, fun _ => hS, ?_⟩
      clear k5
      (simp only [Act.put, List.setIfInBounds_toArray, List.set_cons_zero, List.set_cons_succ])
      refine ap_one 5 (by kernel_rfl) ?_
      refine op_call (f := 15) 5 rfl (by rfl) rfl (by simp only [List.map_toArray, List.map_cons, List.map_nil]; rfl) Tryz.func15 (by kernel_rfl) (by kernel_rfl) (HLp4 _ hS).out ?_
      rintro e w6 ⟨vb, rfl, hIb, k6⟩
      have HSm := Lib.hid (rsame_any va vb _ _ w6 (hIa.keep0 k6) hIb)
      rw [decide_eq_true rfl] at HSm
      replace hS := hS.then k6
      refine ⟨_, rfl, fun _ => hS, ?_⟩
      clear k6 hIa hIb
      (simp only [Act.put, List.setIfInBounds_toArray, List.set_cons_zero, List.set_cons_succ])
      refine ap_one 6 (by kernel_rfl) ?_
      refine op_call (f := 13) 6 rfl (by rfl) rfl (by simp only [List.map_toArray, List.map_cons, List.map_nil]; rfl) Tryz.func13 (by kernel_rfl) (by kernel_rfl) HSm.out ?_
      rintro e w7 ⟨rfl, k7⟩
      replace hS := hS.then k7
      refine ⟨_, rfl, fun _ => hS, ?_⟩
      clear k7 HSm
      (simp only [Act.put, List.setIfInBounds_toArray, List.set_cons_zero, List.set_cons_succ])
      refine ap_one 7 (by kernel_rfl) ?_
      refine op_run (v := .bool false) (w' := w7) 7 rfl (by rfl) (by go_simp) ?_
      refine ⟨fun _ => hS, ap_done (by kernel_rfl) ?_ _⟩
      (simp only [Act.put, List.setIfInBounds_toArray, List.set_cons_zero, List.set_cons_succ])
      have HK7 := Lib.hid (HK4.out.then hS)
      clear hS hPan HCI4 HSc4 HLp4 HSc
      have hcI7 := HCI w7 HK7.out
      have HR7 := HRA w7 HK7.out
      go_wp2_with (refine wpList_load_agg rfl 26 (.tmp 2) rfl rfl (cs := il) (by rw [HIC.out]; exact agg_image) hcI7.out ?_)
      refine HR7.out.mono ?_
      rintro e w8 ⟨rfl, k8⟩
      have HK8 := Lib.hid (HK7.out.then k8)
      clear k8 HR7 hcI7
      have HA8 := HAl w8 HK8.out
      go_wp2_with fail
      refine HA8.out.mono ?_
      rintro e w9 ⟨rfl, k9⟩
      go_wp2
      go_ret
      exact ⟨rfl, HK0.out.then (HK8.out.then k9)⟩
    · have q0 : decide (part < 0) = false := decide_eq_false (by omega)
      have q1 : decide (100000 < part) = true := decide_eq_true h2
      have HLp := fun w' k' => HLc 100000 (by omega) w' k'
      rw [hP] at HSc
      clear hP
      go_wp2_with (refine wpList_load_agg rfl 26 (.tmp 2) rfl rfl (cs := il) (by rw [HIC.out]; exact agg_image) hcI2.out ?_)
      refine (HNo w2 HK2.out).out.mono ?_
      rintro e w4 ⟨rfl, k4⟩
      have HK4 := Lib.hid (HK2.out.then k4)
      clear k4 hcI2
      go_wp2_with fail
      have HCI4 : ∀ w', Keep [] w4 w' → CellsAt w' w.heap.size 0 il := fun w' k' => (HCI w' (HK4.out.then k')).out
      have HSc4 := fun w' (k : Keep [] w4 w') => HSc w' (HK4.out.then k)
      have HLp4 := fun w' (k : Keep [] w4 w') => HLp w' (HK4.out.then k)
      refine ap_begin 7 (Keep [] w4) rfl (Keep.refl _ _).drew (fun hS hPan => ?_) (fun _ _ d _ _ h => by cases d <;> exact h)
      refine ap_agg 0 26 (.tmp 2) il rfl (by kernel_rfl) (by kernel_rfl) (by kernel_rfl) (by kernel_rfl) (by rfl) hPan rfl rfl (by rw [HIC.out]; exact agg_image) HCI4 hS ?_
      (simp only [Act.put, List.setIfInBounds_toArray, List.set_cons_zero, List.set_cons_succ])
      (refine ap_val (v := ?_) 1 rfl (by kernel_rfl) (by kernel_rfl) (by kernel_rfl) (by kernel_rfl) (by rfl) hPan ?_ hS ?_; rotate_left; (intro w' hSw; go_simp; try with_reducible rfl); simp only [Act.put, List.setIfInBounds_toArray, List.set_cons_zero, List.set_cons_succ])
      refine ap_agg 3 26 (.tmp 2) il rfl (by kernel_rfl) (by kernel_rfl) (by kernel_rfl) (by kernel_rfl) (by rfl) hPan rfl rfl (by rw [HIC.out]; exact agg_image) HCI4 hS ?_
      (simp only [Act.put, List.setIfInBounds_toArray, List.set_cons_zero, List.set_cons_succ])
      (refine ap_val (v := ?_) 4 rfl (by kernel_rfl) (by kernel_rfl) (by kernel_rfl) (by kernel_rfl) (by rfl) hPan ?_ hS ?_; rotate_left; (intro w' hSw; go_simp; try with_reducible rfl); simp only [Act.put, List.setIfInBounds_toArray, List.set_cons_zero, List.set_cons_succ])
      refine ap_one 2 (by kernel_rfl) ?_
      refine op_call (f := 14) 2 rfl (by rfl) rfl (by simp only [List.map_toArray, List.map_cons, List.map_nil]; rfl) Tryz.func14 (by kernel_rfl) (by kernel_rfl) (HSc4 _ hS).out ?_
      rintro e w5 ⟨va, rfl, hIa, k5⟩
      replace hS := hS.then k5
      refine ⟨_, rfl, fun _ => hS, ?_⟩
      clear k5
      (simp only [Act.put, List.setIfInBounds_toArray, List.set_cons_zero, List.set_cons_succ])
      refine ap_one 5 (by kernel_rfl) ?_
      refine op_call (f := 15) 5 rfl (by rfl) rfl (by simp only [List.map_toArray, List.map_cons, List.map_nil]; rfl) Tryz.func15 (by kernel_rfl) (by kernel_rfl) (HLp4 _ hS).out ?_
      rintro e w6 ⟨vb, rfl, hIb, k6⟩
      have HSm := Lib.hid (rsame_any va vb _ _ w6 (hIa.keep0 k6) hIb)
      rw [decide_eq_true rfl] at HSm
      replace hS := hS.then k6
      refine ⟨_, rfl, fun _ => hS, ?_⟩
      clear k6 hIa hIb
      (simp only [Act.put, List.setIfInBounds_toArray, List.set_cons_zero, List.set_cons_succ])
      refine ap_one 6 (by kernel_rfl) ?_
      refine op_call (f := 13) 6 rfl (by rfl) rfl (by simp only [List.map_toArray, List.map_cons, List.map_nil]; rfl) Tryz.func13 (by kernel_rfl) (by kernel_rfl) HSm.out ?_
      rintro e w7 ⟨rfl, k7⟩
      replace hS := hS.then k7
      refine ⟨_, rfl, fun _ => hS, ?_⟩
      clear k7 HSm
      (simp only [Act.put, List.setIfInBounds_toArray, List.set_cons_zero, List.set_cons_succ])
      refine ap_one 7 (by kernel_rfl) ?_
      refine op_run (v := .bool false) (w' := w7) 7 rfl (by rfl) (by go_simp) ?_
      refine ⟨fun _ => hS, ap_done (by kernel_rfl) ?_ _⟩
      (simp only [Act.put, List.setIfInBounds_toArray, List.set_cons_zero, List.set_cons_succ])
      have HK7 := Lib.hid (HK4.out.then hS)
      clear hS hPan HCI4 HSc4 HLp4 HSc
      have hcI7 := HCI w7 HK7.out
      have HR7 := HRA w7 HK7.out
      go_wp2_with (refine wpList_load_agg rfl 26 (.tmp 2) rfl rfl (cs := il) (by rw [HIC.out]; exact agg_image) hcI7.out ?_)
      refine HR7.out.mono ?_
      rintro e w8 ⟨rfl, k8⟩
      have HK8 := Lib.hid (HK7.out.then k8)
      clear k8 HR7 hcI7
      have HA8 := HAl w8 HK8.out
      go_wp2_with fail
      refine HA8.out.mono ?_
      rintro e w9 ⟨rfl, k9⟩
      go_wp2
      go_ret
      exact ⟨rfl, HK0.out.then (HK8.out.then k9)⟩
    · have q0 : decide (part < 0) = false := decide_eq_false (by omega)
      have q1 : decide (100000 < part) = false := decide_eq_false (by omega)
      have HLp := fun w' k' => HLc part (by omega) w' k'
      rw [hP] at HSc
      clear hP
      go_wp2_with (refine wpList_load_agg rfl 26 (.tmp 2) rfl rfl (cs := il) (by rw [HIC.out]; exact agg_image) hcI2.out ?_)
      refine (HNo w2 HK2.out).out.mono ?_
      rintro e w4 ⟨rfl, k4⟩
      have HK4 := Lib.hid (HK2.out.then k4)
      clear k4 hcI2
      go_wp2_with fail
      have HCI4 : ∀ w', Keep [] w4 w' → CellsAt w' w.heap.size 0 il := fun w' k' => (HCI w' (HK4.out.then k')).out
      have HSc4 := fun w' (k : Keep [] w4 w') => HSc w' (HK4.out.then k)
      have HLp4 := fun w' (k : Keep [] w4 w') => HLp w' (HK4.out.then k)
      refine ap_begin 7 (Keep [] w4) rfl (Keep.refl _ _).drew (fun hS hPan => ?_) (fun _ _ d _ _ h => by cases d <;> exact h)
      refine ap_agg 0 26 (.tmp 2) il rfl (by kernel_rfl) (by kernel_rfl) (by kernel_rfl) (by kernel_rfl) (by rfl) hPan rfl rfl (by rw [HIC.out]; exact agg_image) HCI4 hS ?_
      (simp only [Act.put, List.setIfInBounds_toArray, List.set_cons_zero, List.set_cons_succ])
      (refine ap_val (v := ?_) 1 rfl (by kernel_rfl) (by kernel_rfl) (by kernel_rfl) (by kernel_rfl) (by rfl) hPan ?_ hS ?_; rotate_left; (intro w' hSw; go_simp; try with_reducible rfl); simp only [Act.put, List.setIfInBounds_toArray, List.set_cons_zero, List.set_cons_succ])
      refine ap_agg 3 26 (.tmp 2) il rfl (by kernel_rfl) (by kernel_rfl) (by kernel_rfl) (by kernel_rfl) (by rfl) hPan rfl rfl (by rw [HIC.out]; exact agg_image) HCI4 hS ?_
      (simp only [Act.put, List.setIfInBounds_toArray, List.set_cons_zero, List.set_cons_succ])
      (refine ap_val (v := ?_) 4 rfl (by kernel_rfl) (by kernel_rfl) (by kernel_rfl) (by kernel_rfl) (by rfl) hPan ?_ hS ?_; rotate_left; (intro w' hSw; go_simp; try with_reducible rfl); simp only [Act.put, List.setIfInBounds_toArray, List.set_cons_zero, List.set_cons_succ])
      refine ap_one 2 (by kernel_rfl) ?_
      refine op_call (f := 14) 2 rfl (by rfl) rfl (by simp only [List.map_toArray, List.map_cons, List.map_nil]; rfl) Tryz.func14 (by kernel_rfl) (by kernel_rfl) (HSc4 _ hS).out ?_
      rintro e w5 ⟨va, rfl, hIa, k5⟩
      replace hS := hS.then k5
      refine ⟨_, rfl, fun _ => hS, ?_⟩
      clear k5
      (simp only [Act.put, List.setIfInBounds_toArray, List.set_cons_zero, List.set_cons_succ])
      refine ap_one 5 (by kernel_rfl) ?_
      refine op_call (f := 15) 5 rfl (by rfl) rfl (by simp only [List.map_toArray, List.map_cons, List.map_nil]; rfl) Tryz.func15 (by kernel_rfl) (by kernel_rfl) (HLp4 _ hS).out ?_
      rintro e w6 ⟨vb, rfl, hIb, k6⟩
      have HSm := Lib.hid (rsame_any va vb _ _ w6 (hIa.keep0 k6) hIb)
      rw [decide_eq_true rfl] at HSm
      replace hS := hS.then k6
      refine ⟨_, rfl, fun _ => hS, ?_⟩
      clear k6 hIa hIb
      (simp only [Act.put, List.setIfInBounds_toArray, List.set_cons_zero, List.set_cons_succ])
      refine ap_one 6 (by kernel_rfl) ?_
      refine op_call (f := 13) 6 rfl (by rfl) rfl (by simp only [List.map_toArray, List.map_cons, List.map_nil]; rfl) Tryz.func13 (by kernel_rfl) (by kernel_rfl) HSm.out ?_
      rintro e w7 ⟨rfl, k7⟩
      replace hS := hS.then k7
      refine ⟨_, rfl, fun _ => hS, ?_⟩
      clear k7 HSm
      (simp only [Act.put, List.setIfInBounds_toArray, List.set_cons_zero, List.set_cons_succ])
      refine ap_one 7 (by kernel_rfl) ?_
      refine op_run (v := .bool false) (w' := w7) 7 rfl (by rfl) (by go_simp) ?_
      refine ⟨fun _ => hS, ap_done (by kernel_rfl) ?_ _⟩
      (simp only [Act.put, List.setIfInBounds_toArray, List.set_cons_zero, List.set_cons_succ])
      have HK7 := Lib.hid (HK4.out.then hS)
      clear hS hPan HCI4 HSc4 HLp4 HSc
      have hcI7 := HCI w7 HK7.out
      have HR7 := HRA w7 HK7.out
      go_wp2_with (refine wpList_load_agg rfl 26 (.tmp 2) rfl rfl (cs := il) (by rw [HIC.out]; exact agg_image) hcI7.out ?_)
      refine HR7.out.mono ?_
      rintro e w8 ⟨rfl, k8⟩
      have HK8 := Lib.hid (HK7.out.then k8)
      clear k8 HR7 hcI7
      have HA8 := HAl w8 HK8.out
      go_wp2_with fail
      refine HA8.out.mono ?_
      rintro e w9 ⟨rfl, k9⟩
      go_wp2
      go_ret
      exact ⟨rfl, HK0.out.then (HK8.out.then k9)⟩
  | true =>
    rw [ha] at HRA
    replace HYes := HYes ha
    clear HNo ha
    go_enter Tryz.func4, Tryz.ntmps4
    go_wp2_with (first
      | rw [HW.out]
      | (refine wpList_load_agg rfl 26 (.tmp 2) rfl rfl (cs := il) (by rw [HIC.out]; exact agg_image) (HCI _ (Keep.refl _ _)).out ?_))
    refine HF.out.mono ?_
    rintro e w1 ⟨rfl, k1⟩
    have hcI := HCI w1 k1
    have HR1 := HRi w1 k1
    have HK1 := Lib.hid k1
    clear k1 HF
    go_wp2_with (refine wpList_agg_gd rfl 26 (.tmp 2) rfl rfl (cs := il) (by rw [HIC.out]; exact agg_image) hcI.out ?_)
    refine HR1.out.mono ?_
    rintro e w2 ⟨rfl, k2⟩
    have HK2 := Lib.hid (HK1.out.then k2)
    have hcI2 := HCI w2 HK2.out
    clear k2 HR1 hcI HRi
    rcases hpc with ⟨h1, hP⟩ | ⟨h1, h2, hP⟩ | ⟨h1, h2, hP⟩
    · have q0 : decide (part < 0) = true := decide_eq_true h1
      have HLp := fun w' k' => HLc 0 (by omega) w' k'
      rw [hP] at HSc
      clear hP
      go_wp2_with (refine wpList_load_agg rfl 26 (.tmp 2) rfl rfl (cs := il) (by rw [HIC.out]; exact agg_image) hcI2.out ?_)
      refine (HYes w2 HK2.out).out.mono ?_
      rintro e w4 ⟨n, rfl, hso, k4⟩
      have HK4 := Lib.hid (HK2.out.then k4)
      have HSO := Lib.hid hso
      clear k4 hcI2 hso
      go_wp2_with fail
      have HCI4 : ∀ w', Keep [] w4 w' → CellsAt w' w.heap.size 0 il := fun w' k' => (HCI w' (HK4.out.then k')).out
      have HSc4 := fun w' (k : Keep [] w4 w') => HSc w' (HK4.out.then k)
      have HLp4 := fun w' (k : Keep [] w4 w') => HLp w' (HK4.out.then k)
      refine ap_begin 7 (Keep [] w4) rfl (Keep.refl _ _).drew (fun hS hPan => ?_) (fun _ _ d _ _ h => by cases d <;> exact h)
      refine ap_agg 0 26 (.tmp 2) il rfl (by kernel_rfl) (by kernel_rfl) (by kernel_rfl) (by kernel_rfl) (by rfl) hPan rfl rfl (by rw [HIC.out]; exact agg_image) HCI4 hS ?_
      (simp only [Act.put, List.setIfInBounds_toArray, List.set_cons_zero, List.set_cons_succ])
      (refine ap_val (v := ?_) 1 rfl (by kernel_rfl) (by kernel_rfl) (by kernel_rfl) (by kernel_rfl) (by rfl) hPan ?_ hS ?_; rotate_left; (intro w' hSw; go_simp; try with_reducible rfl); simp only [Act.put, List.setIfInBounds_toArray, List.set_cons_zero, List.set_cons_succ])
      refine ap_agg 3 26 (.tmp 2) il rfl (by kernel_rfl) (by kernel_rfl) (by kernel_rfl) (by kernel_rfl) (by rfl) hPan rfl rfl (by rw [HIC.out]; exact agg_image) HCI4 hS ?_
      (simp only [Act.put, List.setIfInBounds_toArray, List.set_cons_zero, List.set_cons_succ])
      (refine ap_val (v := ?_) 4 rfl (by kernel_rfl) (by kernel_rfl) (by kernel_rfl) (by kernel_rfl) (by rfl) hPan ?_ hS ?_; rotate_left; (intro w' hSw; go_simp; try with_reducible rfl); simp only [Act.put, List.setIfInBounds_toArray, List.set_cons_zero, List.set_cons_succ])
      refine ap_one 2 (by kernel_rfl) ?_
      refine op_call (f := 14) 2 rfl (by rfl) rfl (by simp only [List.map_toArray, List.map_cons, List.map_nil]; rfl) Tryz.func14 (by kernel_rfl) (by kernel_rfl) (HSc4 _ hS).out ?_
      rintro e w5 ⟨va, rfl, hIa, k5⟩
      replace hS := hS.then k5
      refine ⟨_, rfl, fun _ => hS, ?_⟩
      clear k5
      (simp only [Act.put, List.setIfInBounds_toArray, List.set_cons_zero, List.set_cons_succ])
      refine ap_one 5 (by kernel_rfl) ?_
      refine op_call (f := 15) 5 rfl (by rfl) rfl (by simp only [List.map_toArray, List.map_cons, List.map_nil]; rfl) Tryz.func15 (by kernel_rfl) (by kernel_rfl) (HLp4 _ hS).out ?_
      rintro e w6 ⟨vb, rfl, hIb, k6⟩
      have HSm := Lib.hid (rsame_any va vb _ _ w6 (hIa.keep0 k6) hIb)
      rw [decide_eq_true rfl] at HSm
      replace hS := hS.then k6
      refine ⟨_, rfl, fun _ => hS, ?_⟩
      clear k6 hIa hIb
      (simp only [Act.put, List.setIfInBounds_toArray, List.set_cons_zero, List.set_cons_succ])
      refine ap_one 6 (by kernel_rfl) ?_
      refine op_call (f := 13) 6 rfl (by rfl) rfl (by simp only [List.map_toArray, List.map_cons, List.map_nil]; rfl) Tryz.func13 (by kernel_rfl) (by kernel_rfl) HSm.out ?_
      rintro e w7 ⟨rfl, k7⟩
      replace hS := hS.then k7
      refine ⟨_, rfl, fun _ => hS, ?_⟩
      clear k7 HSm
      (simp only [Act.put, List.setIfInBounds_toArray, List.set_cons_zero, List.set_cons_succ])
      refine ap_one 7 (by kernel_rfl) ?_
      refine op_run (v := .bool false) (w' := w7) 7 rfl (by rfl) (by go_simp) ?_
      refine ⟨fun _ => hS, ap_done (by kernel_rfl) ?_ _⟩
      (simp only [Act.put, List.setIfInBounds_toArray, List.set_cons_zero, List.set_cons_succ])
      have HK7 := Lib.hid (HK4.out.then hS)
      clear hS hPan HCI4 HSc4 HLp4 HSc
      have hcI7 := HCI w7 HK7.out
      have HR7 := HRA w7 HK7.out
      go_wp2_with (refine wpList_load_agg rfl 26 (.tmp 2) rfl rfl (cs := il) (by rw [HIC.out]; exact agg_image) hcI7.out ?_)
      refine HR7.out.mono ?_
      rintro e w8 ⟨rfl, k8⟩
      have HK8 := Lib.hid (HK7.out.then k8)
      clear k8 HR7 hcI7
      have hn1 : decide (n < 1000) = false := decide_eq_false (by have := HSO.out.lo; omega)
      have hn2 : decide (100000 < n) = false := decide_eq_false (by have := HSO.out.hi; omega)
      have hcI8 := HCI w8 HK8.out
      have HL8 := HLc n (by have := HSO.out.lo; have := HSO.out.hi; omega) w8 HK8.out
      go_wp2_with (refine wpList_load_agg rfl 26 (.tmp 2) rfl rfl (cs := il) (by rw [HIC.out]; exact agg_image) hcI8.out ?_)
      refine HL8.out.mono ?_
      rintro e w9 ⟨vy, rfl, hy, k9⟩
      have HRy := Lib.hid (radm_any vy _ w9 hy)
      rw [HSO.out.yes] at HRy
      have HK9 := Lib.hid (HK8.out.then k9)
      clear k9 hy HL8 hcI8 hn1 hn2
      generalize imgCells vy (scaleI x n) = yl at *
      go_wp2_with fail
      refine HRy.out.mono ?_
      rintro e w10 ⟨rfl, k10⟩
      have HK10 := Lib.hid (HK9.out.then k10)
      clear k10 HRy
      by_cases hnd : n = 100000
      · subst hnd
        have HA10 := HAl w10 HK10.out
        clear HSO
        go_wp2_with fail
        refine HA10.out.mono ?_
        rintro e w11 ⟨rfl, k11⟩
        go_wp2
        go_ret
        exact ⟨rfl, HK0.out.then (HK10.out.then k11)⟩
      · have z1 : decide (n = 100000) = false := decide_eq_false hnd
        have z2 : (n == 100000) = false := by simpa using hnd
        have HNO : Hid (admB (scaleI x (n + 1)) = false) := by
          rcases HSO.out.no with h | h
          · exact absurd h hnd
          · exact h
        have hwr : IntKind.i64.wrap (n + 1) = n + 1 := IntWalk.i64_in _ (by have := HSO.out.lo; have := HSO.out.hi; omega)
        have hcI10 := HCI w10 HK10.out
        have HL10 := HLc (n + 1) (by have := HSO.out.lo; have := HSO.out.hi; omega) w10 HK10.out
        clear hnd HSO
        go_wp2_with (refine wpList_agg_gd rfl 26 (.tmp 2) rfl rfl (cs := il) (by rw [HIC.out]; exact agg_image) hcI10.out ?_)
        refine HL10.out.mono ?_
        rintro e w11 ⟨vz, rfl, hy, k11⟩
        have HRz := Lib.hid (radm_any vz _ w11 hy)
        rw [HNO.out] at HRz
        have HK11 := Lib.hid (HK10.out.then k11)
        clear k11 hy HL10 hcI10
        generalize imgCells vz (scaleI x (n + 1)) = zl at *
        go_wp2_with fail
        refine HRz.out.mono ?_
        rintro e w12 ⟨rfl, k12⟩
        have HK12 := Lib.hid (HK11.out.then k12)
        have HA12 := HAl w12 HK12.out
        clear k12 HRz
        go_wp2_with fail
        refine HA12.out.mono ?_
        rintro e w13 ⟨rfl, k13⟩
        go_wp2
        go_ret
        exact ⟨rfl, HK0.out.then (HK12.out.then k13)⟩
    · have q0 : decide (part < 0) = false := decide_eq_false (by omega)
      have q1 : decide (100000 < part) = true := decide_eq_true h2
      have HLp := fun w' k' => HLc 100000 (by omega) w' k'
      rw [hP] at HSc
      clear hP
      go_wp2_with (refine wpList_load_agg rfl 26 (.tmp 2) rfl rfl (cs := il) (by rw [HIC.out]; exact agg_image) hcI2.out ?_)
      refine (HYes w2 HK2.out).out.mono ?_
      rintro e w4 ⟨n, rfl, hso, k4⟩
      have HK4 := Lib.hid (HK2.out.then k4)
      have HSO := Lib.hid hso
      clear k4 hcI2 hso
      go_wp2_with fail
      have HCI4 : ∀ w', Keep [] w4 w' → CellsAt w' w.heap.size 0 il := fun w' k' => (HCI w' (HK4.out.then k')).out
      have HSc4 := fun w' (k : Keep [] w4 w') => HSc w' (HK4.out.then k)
      have HLp4 := fun w' (k : Keep [] w4 w') => HLp w' (HK4.out.then k)
      refine ap_begin 7 (Keep [] w4) rfl (Keep.refl _ _).drew (fun hS hPan => ?_) (fun _ _ d _ _ h => by cases d <;> exact h)
      refine ap_agg 0 26 (.tmp 2) il rfl (by kernel_rfl) (by kernel_rfl) (by kernel_rfl) (by kernel_rfl) (by rfl) hPan rfl rfl (by rw [HIC.out]; exact agg_image) HCI4 hS ?_
      (simp only [Act.put, List.setIfInBounds_toArray, List.set_cons_zero, List.set_cons_succ])
      (refine ap_val (v := ?_) 1 rfl (by kernel_rfl) (by kernel_rfl) (by kernel_rfl) (by kernel_rfl) (by rfl) hPan ?_ hS ?_; rotate_left; (intro w' hSw; go_simp; try with_reducible rfl); simp only [Act.put, List.setIfInBounds_toArray, List.set_cons_zero, List.set_cons_succ])
      refine ap_agg 3 26 (.tmp 2) il rfl (by kernel_rfl) (by kernel_rfl) (by kernel_rfl) (by kernel_rfl) (by rfl) hPan rfl rfl (by rw [HIC.out]; exact agg_image) HCI4 hS ?_
      (simp only [Act.put, List.setIfInBounds_toArray, List.set_cons_zero, List.set_cons_succ])
      (refine ap_val (v := ?_) 4 rfl (by kernel_rfl) (by kernel_rfl) (by kernel_rfl) (by kernel_rfl) (by rfl) hPan ?_ hS ?_; rotate_left; (intro w' hSw; go_simp; try with_reducible rfl); simp only [Act.put, List.setIfInBounds_toArray, List.set_cons_zero, List.set_cons_succ])
      refine ap_one 2 (by kernel_rfl) ?_
      refine op_call (f := 14) 2 rfl (by rfl) rfl (by simp only [List.map_toArray, List.map_cons, List.map_nil]; rfl) Tryz.func14 (by kernel_rfl) (by kernel_rfl) (HSc4 _ hS).out ?_
      rintro e w5 ⟨va, rfl, hIa, k5⟩
      replace hS := hS.then k5
      refine ⟨_, rfl, fun _ => hS, ?_⟩
      clear k5
      (simp only [Act.put, List.setIfInBounds_toArray, List.set_cons_zero, List.set_cons_succ])
      refine ap_one 5 (by kernel_rfl) ?_
      refine op_call (f := 15) 5 rfl (by rfl) rfl (by simp only [List.map_toArray, List.map_cons, List.map_nil]; rfl) Tryz.func15 (by kernel_rfl) (by kernel_rfl) (HLp4 _ hS).out ?_
      rintro e w6 ⟨vb, rfl, hIb, k6⟩
      have HSm := Lib.hid (rsame_any va vb _ _ w6 (hIa.keep0 k6) hIb)
      rw [decide_eq_true rfl] at HSm
      replace hS := hS.then k6
      refine ⟨_, rfl, fun _ => hS, ?_⟩
      clear k6 hIa hIb
      (simp only [Act.put, List.setIfInBounds_toArray, List.set_cons_zero, List.set_cons_succ])
      refine ap_one 6 (by kernel_rfl) ?_
      refine op_call (f := 13) 6 rfl (by rfl) rfl (by simp only [List.map_toArray, List.map_cons, List.map_nil]; rfl) Tryz.func13 (by kernel_rfl) (by kernel_rfl) HSm.out ?_
      rintro e w7 ⟨rfl, k7⟩
      replace hS := hS.then k7
      refine ⟨_, rfl, fun _ => hS, ?_⟩
      clear k7 HSm
      (simp only [Act.put, List.setIfInBounds_toArray, List.set_cons_zero, List.set_cons_succ])
      refine ap_one 7 (by kernel_rfl) ?_
      refine op_run (v := .bool false) (w' := w7) 7 rfl (by rfl) (by go_simp) ?_
      refine ⟨fun _ => hS, ap_done (by kernel_rfl) ?_ _⟩
      (simp only [Act.put, List.setIfInBounds_toArray, List.set_cons_zero, List.set_cons_succ])
      have HK7 := Lib.hid (HK4.out.then hS)
      clear hS hPan HCI4 HSc4 HLp4 HSc
      have hcI7 := HCI w7 HK7.out
      have HR7 := HRA w7 HK7.out
      go_wp2_with (refine wpList_load_agg rfl 26 (.tmp 2) rfl rfl (cs := il) (by rw [HIC.out]; exact agg_image) hcI7.out ?_)
      refine HR7.out.mono ?_
      rintro e w8 ⟨rfl, k8⟩
      have HK8 := Lib.hid (HK7.out.then k8)
      clear k8 HR7 hcI7
      have hn1 : decide (n < 1000) = false := decide_eq_false (by have := HSO.out.lo; omega)
      have hn2 : decide (100000 < n) = false := decide_eq_false (by have := HSO.out.hi; omega)
      have hcI8 := HCI w8 HK8.out
      have HL8 := HLc n (by have := HSO.out.lo; have := HSO.out.hi; omega) w8 HK8.out
      go_wp2_with (refine wpList_load_agg rfl 26 (.tmp 2) rfl rfl (cs := il) (by rw [HIC.out]; exact agg_image) hcI8.out ?_)
      refine HL8.out.mono ?_
      rintro e w9 ⟨vy, rfl, hy, k9⟩
      have HRy := Lib.hid (radm_any vy _ w9 hy)
      rw [HSO.out.yes] at HRy
      have HK9 := Lib.hid (HK8.out.then k9)
      clear k9 hy HL8 hcI8 hn1 hn2
      generalize imgCells vy (scaleI x n) = yl at *
      go_wp2_with fail
      refine HRy.out.mono ?_
      rintro e w10 ⟨rfl, k10⟩
      have HK10 := Lib.hid (HK9.out.then k10)
      clear k10 HRy
      by_cases hnd : n = 100000
      · subst hnd
        have HA10 := HAl w10 HK10.out
        clear HSO
        go_wp2_with fail
        refine HA10.out.mono ?_
        rintro e w11 ⟨rfl, k11⟩
        go_wp2
        go_ret
        exact ⟨rfl, HK0.out.then (HK10.out.then k11)⟩
      · have z1 : decide (n = 100000) = false := decide_eq_false hnd
        have z2 : (n == 100000) = false := by simpa using hnd
        have HNO : Hid (admB (scaleI x (n + 1)) = false) := by
          rcases HSO.out.no with h | h
          · exact absurd h hnd
          · exact h
        have hwr : IntKind.i64.wrap (n + 1) = n + 1 := IntWalk.i64_in _ (by have := HSO.out.lo; have := HSO.out.hi; omega)
        have hcI10 := HCI w10 HK10.out
        have HL10 := HLc (n + 1) (by have := HSO.out.lo; have := HSO.out.hi; omega) w10 HK10.out
        clear hnd HSO
        go_wp2_with (refine wpList_agg_gd rfl 26 (.tmp 2) rfl rfl (cs := il) (by rw [HIC.out]; exact agg_image) hcI10.out ?_)
        refine HL10.out.mono ?_
        rintro e w11 ⟨vz, rfl, hy, k11⟩
        have HRz := Lib.hid (radm_any vz _ w11 hy)
        rw [HNO.out] at HRz
        have HK11 := Lib.hid (HK10.out.then k11)
        clear k11 hy HL10 hcI10
        generalize imgCells vz (scaleI x (n + 1)) = zl at *
        go_wp2_with fail
        refine HRz.out.mono ?_
        rintro e w12 ⟨rfl, k12⟩
        have HK12 := Lib.hid (HK11.out.then k12)
        have HA12 := HAl w12 HK12.out
        clear k12 HRz
        go_wp2_with fail
        refine HA12.out.mono ?_
        rintro e w13 ⟨rfl, k13⟩
        go_wp2
        go_ret
        exact ⟨rfl, HK0.out.then (HK12.out.then k13)⟩
    · have q0 : decide (part < 0) = false := decide_eq_false (by omega)
      have q1 : decide (100000 < part) = false := decide_eq_false (by omega)
      have HLp := fun w' k' => HLc part (by omega) w' k'
      rw [hP] at HSc
      clear hP
      go_wp2_with (refine wpList_load_agg rfl 26 (.tmp 2) rfl rfl (cs := il) (by rw [HIC.out]; exact agg_image) hcI2.out ?_)
      refine (HYes w2 HK2.out).out.mono ?_
      rintro e w4 ⟨n, rfl, hso, k4⟩
      have HK4 := Lib.hid (HK2.out.then k4)
      have HSO := Lib.hid hso
      clear k4 hcI2 hso
      go_wp2_with fail
      have HCI4 : ∀ w', Keep [] w4 w' → CellsAt w' w.heap.size 0 il := fun w' k' => (HCI w' (HK4.out.then k')).out
      have HSc4 := fun w' (k : Keep [] w4 w') => HSc w' (HK4.out.then k)
      have HLp4 := fun w' (k : Keep [] w4 w') => HLp w' (HK4.out.then k)
      refine ap_begin 7 (Keep [] w4) rfl (Keep.refl _ _).drew (fun hS hPan => ?_) (fun _ _ d _ _ h => by cases d <;> exact h)
      refine ap_agg 0 26 (.tmp 2) il rfl (by kernel_rfl) (by kernel_rfl) (by kernel_rfl) (by kernel_rfl) (by rfl) hPan rfl rfl (by rw [HIC.out]; exact agg_image) HCI4 hS ?_
      (simp only [Act.put, List.setIfInBounds_toArray, List.set_cons_zero, List.set_cons_succ])
      (refine ap_val (v := ?_) 1 rfl (by kernel_rfl) (by kernel_rfl) (by kernel_rfl) (by kernel_rfl) (by rfl) hPan ?_ hS ?_; rotate_left; (intro w' hSw; go_simp; try with_reducible rfl); simp only [Act.put, List.setIfInBounds_toArray, List.set_cons_zero, List.set_cons_succ])
      refine ap_agg 3 26 (.tmp 2) il rfl (by kernel_rfl) (by kernel_rfl) (by kernel_rfl) (by kernel_rfl) (by rfl) hPan rfl rfl (by rw [HIC.out]; exact agg_image) HCI4 hS ?_
      (simp only [Act.put, List.setIfInBounds_toArray, List.set_cons_zero, List.set_cons_succ])
      (refine ap_val (v := ?_) 4 rfl (by kernel_rfl) (by kernel_rfl) (by kernel_rfl) (by kernel_rfl) (by rfl) hPan ?_ hS ?_; rotate_left; (intro w' hSw; go_simp; try with_reducible rfl); simp only [Act.put, List.setIfInBounds_toArray, List.set_cons_zero, List.set_cons_succ])
      refine ap_one 2 (by kernel_rfl) ?_
      refine op_call (f := 14) 2 rfl (by rfl) rfl (by simp only [List.map_toArray, List.map_cons, List.map_nil]; rfl) Tryz.func14 (by kernel_rfl) (by kernel_rfl) (HSc4 _ hS).out ?_
      rintro e w5 ⟨va, rfl, hIa, k5⟩
      replace hS := hS.then k5
      refine ⟨_, rfl, fun _ => hS, ?_⟩
      clear k5
      (simp only [Act.put, List.setIfInBounds_toArray, List.set_cons_zero, List.set_cons_succ])
      refine ap_one 5 (by kernel_rfl) ?_
      refine op_call (f := 15) 5 rfl (by rfl) rfl (by simp only [List.map_toArray, List.map_cons, List.map_nil]; rfl) Tryz.func15 (by kernel_rfl) (by kernel_rfl) (HLp4 _ hS).out ?_
      rintro e w6 ⟨vb, rfl, hIb, k6⟩
      have HSm := Lib.hid (rsame_any va vb _ _ w6 (hIa.keep0 k6) hIb)
      rw [decide_eq_true rfl] at HSm
      replace hS := hS.then k6
      refine ⟨_, rfl, fun _ => hS, ?_⟩
      clear k6 hIa hIb
      (simp only [Act.put, List.setIfInBounds_toArray, List.set_cons_zero, List.set_cons_succ])
      refine ap_one 6 (by kernel_rfl) ?_
      refine op_call (f := 13) 6 rfl (by rfl) rfl (by simp only [List.map_toArray, List.map_cons, List.map_nil]; rfl) Tryz.func13 (by kernel_rfl) (by kernel_rfl) HSm.out ?_
      rintro e w7 ⟨rfl, k7⟩
      replace hS := hS.then k7
      refine ⟨_, rfl, fun _ => hS, ?_⟩
      clear k7 HSm
      (simp only [Act.put, List.setIfInBounds_toArray, List.set_cons_zero, List.set_cons_succ])
      refine ap_one 7 (by kernel_rfl) ?_
      refine op_run (v := .bool false) (w' := w7) 7 rfl (by rfl) (by go_simp) ?_
      refine ⟨fun _ => hS, ap_done (by kernel_rfl) ?_ _⟩
      (simp only [Act.put, List.setIfInBounds_toArray, List.set_cons_zero, List.set_cons_succ])
      have HK7 := Lib.hid (HK4.out.then hS)
      clear hS hPan HCI4 HSc4 HLp4 HSc
      have hcI7 := HCI w7 HK7.out
      have HR7 := HRA w7 HK7.out
      go_wp2_with (refine wpList_load_agg rfl 26 (.tmp 2) rfl rfl (cs := il) (by rw [HIC.out]; exact agg_image) hcI7.out ?_)
      refine HR7.out.mono ?_
      rintro e w8 ⟨rfl, k8⟩
      have HK8 := Lib.hid (HK7.out.then k8)
      clear k8 HR7 hcI7
      have hn1 : decide (n < 1000) = false := decide_eq_false (by have := HSO.out.lo; omega)
      have hn2 : decide (100000 < n) = false := decide_eq_false (by have := HSO.out.hi; omega)
      have hcI8 := HCI w8 HK8.out
      have HL8 := HLc n (by have := HSO.out.lo; have := HSO.out.hi; omega) w8 HK8.out
      go_wp2_with (refine wpList_load_agg rfl 26 (.tmp 2) rfl rfl (cs := il) (by rw [HIC.out]; exact agg_image) hcI8.out ?_)
      refine HL8.out.mono ?_
      rintro e w9 ⟨vy, rfl, hy, k9⟩
      have HRy := Lib.hid (radm_any vy _ w9 hy)
      rw [HSO.out.yes] at HRy
      have HK9 := Lib.hid (HK8.out.then k9)
      clear k9 hy HL8 hcI8 hn1 hn2
      generalize imgCells vy (scaleI x n) = yl at *
      go_wp2_with fail
      refine HRy.out.mono ?_
      rintro e w10 ⟨rfl, k10⟩
      have HK10 := Lib.hid (HK9.out.then k10)
      clear k10 HRy
      by_cases hnd : n = 100000
      · subst hnd
        have HA10 := HAl w10 HK10.out
        clear HSO
        go_wp2_with fail
        refine HA10.out.mono ?_
        rintro e w11 ⟨rfl, k11⟩
        go_wp2
        go_ret
        exact ⟨rfl, HK0.out.then (HK10.out.then k11)⟩
      · have z1 : decide (n = 100000) = false := decide_eq_false hnd
        have z2 : (n == 100000) = false := by simpa using hnd
        have HNO : Hid (admB (scaleI x (n + 1)) = false) := by
          rcases HSO.out.no with h | h
          · exact absurd h hnd
          · exact h
        have hwr : IntKind.i64.wrap (n + 1) = n + 1 := IntWalk.i64_in _ (by have := HSO.out.lo; have := HSO.out.hi; omega)
        have hcI10 := HCI w10 HK10.out
        have HL10 := HLc (n + 1) (by have := HSO.out.lo; have := HSO.out.hi; omega) w10 HK10.out
        clear hnd HSO
        go_wp2_with (refine wpList_agg_gd rfl 26 (.tmp 2) rfl rfl (cs := il) (by rw [HIC.out]; exact agg_image) hcI10.out ?_)
        refine HL10.out.mono ?_
        rintro e w11 ⟨vz, rfl, hy, k11⟩
        have HRz := Lib.hid (radm_any vz _ w11 hy)
        rw [HNO.out] at HRz
        have HK11 := Lib.hid (HK10.out.then k11)
        clear k11 hy HL10 hcI10
        generalize imgCells vz (scaleI x (n + 1)) = zl at *
        go_wp2_with fail
        refine HRz.out.mono ?_
        rintro e w12 ⟨rfl, k12⟩
        have HK12 := Lib.hid (HK11.out.then k12)
        have HA12 := HAl w12 HK12.out
        clear k12 HRz
        go_wp2_with fail
        refine HA12.out.mono ?_
        rintro e w13 ⟨rfl, k13⟩
        go_wp2
        go_ret
        exact ⟨rfl, HK0.out.then (HK12.out.then k13)⟩
end Go.Proofs.YtnnnjcgddmhdmaaGreatDoor
