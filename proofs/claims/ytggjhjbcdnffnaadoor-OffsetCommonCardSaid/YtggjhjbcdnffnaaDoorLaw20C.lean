/- OffsetCommon: the law's walk. Condition: the table of math/bits lies where the program's text lays it. -/
import Derived.Test.YtggjhjbcdnffnaaDoorLaw20B
namespace Go.Proofs.YtggjhjbcdnffnaaDoor
open Go.RowKit

set_option maxRecDepth 100000 in
set_option maxHeartbeats 2000000 in
theorem common_out (v : ImgV) (x : Img) (edge : Int) (w : World) (hTb : Tab w) (h : ImgAt w v x) (he : edge < 0 ∨ (x.edges.length : Int) ≤ edge) :
    Calls Tryd.prog 28 #[.agg (imgCells v x).toArray, .int .i64 edge] w fun e w' => e = .returned (.tuple #[.int .i64 0, .bool false]) ∧ Keep [] w w' := by
  have b0 := img_box w v x
  obtain ⟨W0, hW0⟩ : ∃ W0, w.alloc (.cells (imgCells v x).toArray 26) = W0 := ⟨_, rfl⟩
  rw [hW0] at b0
  have K0 : Keep [] w W0 := by rw [← hW0]; exact (Keep.refl [] w).alloc _
  have HCF : Hid (∀ w', Keep [] W0 w' → CellsAt w' w.heap.size 0 (imgCells v x)) := fun w' hk => (b0.keep0 hk).cellsAt
  have HIC : Hid ((imgCells v x).length = 4) := show _ = _ from rfl
  have HEd := Lib.hid (clsEdge_out v x edge W0 (h.keep0 K0) he)
  have HA1 := fun (B : Nat) w' hk hb => Lib.hid (all1_any 0 16384 B w' (hTb.keep0 (w' := w') hk) (by decide) (by omega) hb)
  have hf0 : farL 0 16384 = z16 := by decide
  rw [hf0] at HA1
  have HFi := fun w' hk => Lib.hid (fits_out v x edge z16 w' (h.keep0 hk) he rfl)
  have HW := Lib.hid hW0
  clear hW0 h hTb b0 he hf0
  have hfld := fun w => run_new_field 0 0 0 w
  generalize imgCells v x = il at *
  go_enter Tryd.func28, Tryd.ntmps28
  go_wp2_with (first
    | rw [HW.out]
    | (refine wpList_load_agg rfl 26 (.tmp 2) rfl rfl (cs := il) (by rw [HIC.out]; exact agg_image) (HCF.out _ (Keep.refl _ _)) ?_))
  refine HEd.out.mono ?_
  rintro e w1 ⟨rfl, k1⟩
  have b2 : Blk (w1.alloc (.cells #[.int .u32 0] 31)) w1.heap.size 31 #[.int .u32 0] := Blk.new w1 _ _
  have k12 : Keep [] w1 (w1.alloc (.cells #[.int .u32 0] 31)) := (Keep.refl [] w1).alloc _
  obtain ⟨w2, hw2⟩ : ∃ w2, w1.alloc (.cells #[.int .u32 0] 31) = w2 := ⟨_, rfl⟩
  rw [hw2] at b2 k12
  have HW2 := Lib.hid hw2
  have c2 := b2.cell 0
  have f2 := b2.frozen 0
  simp at c2
  have b3 := b2.set_ 0 (.int .u32 0)
  have k3 : Keep [] w1 (w2.setCell ⟨w1.heap.size, 0, none⟩ (.int .u32 0)) := k12.trans (keep_set _ _ _ _) (fun y hy hlt => by simp at hy; omega)
  obtain ⟨w3, hw3⟩ : ∃ w3, w2.setCell ⟨w1.heap.size, 0, none⟩ (.int .u32 0) = w3 := ⟨_, rfl⟩
  rw [hw3] at b3 k3
  have HW3 := Lib.hid hw3
  have b4 : Blk w3 w1.heap.size 31 #[.int .u32 0] := b3
  have K2 := k1.then k3
  have HCI : ∀ w', Keep [] w3 w' → CellsAt w' w.heap.size 0 il := fun w' hk => HCF.out w' (K2.then hk)
  have HKW := Lib.hid (K0.then K2)
  clear hw2 hw3 k1 k12 k3 b2 b3 HEd HW K2
  go_wp2_with (first
    | rw [HW3.out]
    | rw [HW2.out])
  clear HW2 HW3 c2 f2
  generalize w3 = w2 at *
  have b2 := b4
  refine ap_begin 5 (Keep [] w2) rfl (Keep.refl _ _).drew (fun hS hPan => ?_) (fun _ _ d _ _ h => by cases d <;> exact h)
  refine ap_agg 0 26 (.tmp 2) il rfl (by kernel_rfl) (by kernel_rfl) (by kernel_rfl) (by kernel_rfl) (by rfl) hPan rfl rfl (by rw [HIC.out]; exact agg_image) HCI hS ?_
  (simp only [Act.put, List.setIfInBounds_toArray, List.set_cons_zero, List.set_cons_succ])
  (refine ap_val (v := ?_) 1 rfl (by kernel_rfl) (by kernel_rfl) (by kernel_rfl) (by kernel_rfl) (by rfl) hPan ?_ hS ?_; rotate_left; (intro w' hSw; go_simp; try with_reducible rfl); simp only [Act.put, List.setIfInBounds_toArray, List.set_cons_zero, List.set_cons_succ])
  (refine ap_val (v := ?_) 2 rfl (by kernel_rfl) (by kernel_rfl) (by kernel_rfl) (by kernel_rfl) (by rfl) hPan ?_ hS ?_; rotate_left; (intro w' hSw; go_simp; try with_reducible rfl); simp only [Act.put, List.setIfInBounds_toArray, List.set_cons_zero, List.set_cons_succ])
  refine ap_one 3 (by kernel_rfl) ?_
  refine op_callv (f := 61) (fr := #[.pointer (some ⟨w1.heap.size, 0, none⟩)]) (vs := #[.int .i64 16384]) 3 rfl (by rfl) rfl rfl (by simp only [List.map_toArray, List.map_cons, List.map_nil]; rfl) Tryd.func61 (by kernel_rfl) (by kernel_rfl) (HA1 _ _ (HKW.out.then hS) (b2.keep0 hS)).out ?_
  rintro e w3 ⟨rfl, k3⟩
  replace hS := hS.then k3
  refine ⟨_, rfl, fun _ => hS, ?_⟩
  clear k3
  (simp only [Act.put, List.setIfInBounds_toArray, List.set_cons_zero, List.set_cons_succ])
  refine ap_one 4 (by kernel_rfl) ?_
  refine op_call (f := 59) (vs := #[.agg il.toArray, .int .i64 edge, .agg (iv z16).toArray]) 4 rfl (by rfl) rfl (by simp only [List.map_toArray, List.map_cons, List.map_nil]; rfl) Tryd.func59 (by kernel_rfl) (by kernel_rfl) (HFi _ (HKW.out.then hS)).out ?_
  rintro e w4 ⟨rfl, k4⟩
  replace hS := hS.then k4
  refine ⟨_, rfl, fun _ => hS, ?_⟩
  clear k4
  (simp only [Act.put, List.setIfInBounds_toArray, List.set_cons_zero, List.set_cons_succ])
  refine ap_one 5 (by kernel_rfl) ?_
  refine op_run (v := .bool true) (w' := w4) 5 rfl (by rfl) (by go_simp) ?_
  refine ⟨fun _ => hS, ap_done (by kernel_rfl) ?_ _⟩
  (simp only [Act.put, List.setIfInBounds_toArray, List.set_cons_zero, List.set_cons_succ])
  have HS := Lib.hid hS
  clear hS hPan
  go_wp2
  go_ret2
  exact ⟨rfl, HKW.out.then HS.out⟩
set_option maxRecDepth 100000 in
set_option maxHeartbeats 4000000 in
theorem offsetCommon_any (v : ImgV) (x : Img) (edge : Int) (w : World) (hTb : Tab w) (h : ImgAt w v x) :
    Calls Tryd.prog 6 #[.agg (imgCells v x).toArray, .int .i64 edge] w fun e w' => e = .returned (.bool true) ∧ Keep [] w w' := by
  have b0 := img_box w v x
  obtain ⟨W0, hW0⟩ : ∃ W0, w.alloc (.cells (imgCells v x).toArray 26) = W0 := ⟨_, rfl⟩
  rw [hW0] at b0
  have K0 : Keep [] w W0 := by rw [← hW0]; exact (Keep.refl [] w).alloc _
  have HC0 : Hid (∀ w', Keep [] W0 w' → CellsAt w' w.heap.size 0 (imgCells v x)) := fun w' hk => (b0.keep0 hk).cellsAt
  have HI1 : Hid (∀ w', Keep [] W0 w' → w'.cell? ⟨w.heap.size, 3, none⟩ = some (.slice v.ea x.edges.length v.ec)) := fun w' hk => by rw [(b0.keep0 hk).cell]; rfl
  have HIC : Hid ((imgCells v x).length = 4) := show _ = _ from rfl
  have HG := Lib.hid (great_any v x W0 (h.keep0 K0))
  have HR := fun w' hk' => Lib.hid (right_any v x w' (h.keep0 (K0.then hk')))
  have HAl := fun w' hk => Lib.hid (alive20 w' (hTb.keep0 (w' := w') hk))
  have hle63 := h.le
  unfold maxLen at hle63
  have HW := Lib.hid hW0
  have HI := Lib.hid h
  have HTB := Lib.hid hTb
  have HK0 := Lib.hid K0
  have hz16 : Hid ((iv z16).length = 16) := show _ = _ from rfl
  have hone0 : Hid (∀ u ∈ iv z16, u.oneCell' = true) := iv_one _
  have hbz : Hid (#[Value.int .i64 0, .int .i64 0, .int .i64 0, .int .i64 0, .int .i64 0, .int .i64 0, .int .i64 0, .int .i64 0, .int .i64 0, .int .i64 0, .int .i64 0, .int .i64 0, .int .i64 0, .int .i64 0, .int .i64 0, .int .i64 0] = (iv z16).toArray) := show _ = _ from rfl
  clear h hTb b0 hW0
  generalize hil : imgCells v x = il at *
  have HIL := Lib.hid hil
  clear hil
  go_enter Tryd.func6, Tryd.ntmps6
  go_wp2_with (first
    | rw [HW.out]
    | (refine wpList_load_agg rfl 26 (.tmp 2) rfl rfl (cs := il) (by rw [HIC.out]; exact agg_image) (HC0.out _ (Keep.refl _ _)) ?_))
  refine HG.out.mono ?_
  rintro e w2 ⟨rfl, k2⟩
  cases hg : greatImg x with
  | true =>
    go_wp2
    go_ret
    exact ⟨rfl, K0.then k2⟩
  | false =>
  have hc2 := Lib.hid (HC0.out w2 k2)
  go_wp2_with (refine wpList_agg_gd rfl 26 (.tmp 2) rfl rfl (cs := il) (by rw [HIC.out]; exact agg_image) hc2.out ?_)
  refine (HR _ k2).out.mono ?_
  rintro e w3 ⟨rfl, k3⟩
  have HK3 := Lib.hid (k2.then k3)
  clear k2 k3 hc2
  cases hr : ((chkImg x).2 == 0) with
  | false =>
    go_wp2
    go_ret
    exact ⟨rfl, K0.then HK3.out⟩
  | true =>
  have hx0 : (chkImg x).2 = 0 := by simpa using hr
  have hc3 := Lib.hid (HC0.out w3 HK3.out)
  clear HG HR hg hr
  by_cases hedge : edge < 0 ∨ (x.edges.length : Int) ≤ edge
  · have HCo := Lib.hid (common_out v x edge w3 (HTB.out.keep0 (K0.then HK3.out)) (HI.out.keep0 (K0.then HK3.out)) hedge)
    rw [HIL.out] at HCo
    go_wp2_with (refine wpList_load_agg rfl 26 (.tmp 2) rfl rfl (cs := il) (by rw [HIC.out]; exact agg_image) hc3.out ?_)
    refine HCo.out.mono ?_
    rintro e w5 ⟨rfl, k5⟩
    have HK5 := Lib.hid (HK3.out.then k5)
    clear k5 hc3 HCo
    have hF : ∀ w', Keep [] w5 w' → w'.cell? ⟨w.heap.size, 3, none⟩ = some (.slice v.ea x.edges.length v.ec) ∧ True := fun w' hk => ⟨HI1.out w' (HK5.out.then hk), trivial⟩
    rcases hedge with he | he
    · have q0 : decide (edge < 0) = true := decide_eq_true he
      go_wp2
      refine wp_region_flow (Keep [] w5) rfl (by kernel_rfl) (Keep.refl _ _).drew ?_
      (refine fl_val (v := ?_) (by rfl) ?_ ?_; rotate_left; (intro w' hS; obtain ⟨f1,f2⟩ := hF w' hS; go_simp; with_reducible rfl); simp only [Act.put, List.setIfInBounds_toArray, List.set_cons_zero, List.set_cons_succ])
      (refine fl_val (v := ?_) (by rfl) ?_ ?_; rotate_left; (intro w' hS; obtain ⟨f1,f2⟩ := hF w' hS; go_simp; with_reducible rfl); simp only [Act.put, List.setIfInBounds_toArray, List.set_cons_zero, List.set_cons_succ])
      (refine fl_val (v := ?_) (by rfl) ?_ ?_; rotate_left; (intro w' hS; obtain ⟨f1,f2⟩ := hF w' hS; go_simp; with_reducible rfl); simp only [Act.put, List.setIfInBounds_toArray, List.set_cons_zero, List.set_cons_succ])
      (refine fl_off (by rfl) ?_; simp only [Act.put, List.setIfInBounds_toArray, List.set_cons_zero, List.set_cons_succ])
      (refine fl_off (by rfl) ?_; simp only [Act.put, List.setIfInBounds_toArray, List.set_cons_zero, List.set_cons_succ])
      (refine fl_off (by rfl) ?_; simp only [Act.put, List.setIfInBounds_toArray, List.set_cons_zero, List.set_cons_succ])
      (refine fl_off (by rfl) ?_; simp only [Act.put, List.setIfInBounds_toArray, List.set_cons_zero, List.set_cons_succ])
      (refine fl_off (by rfl) ?_; simp only [Act.put, List.setIfInBounds_toArray, List.set_cons_zero, List.set_cons_succ])
      (refine fl_val (v := ?_) (by rfl) ?_ ?_; rotate_left; (intro w' hS; obtain ⟨f1,f2⟩ := hF w' hS; go_simp; with_reducible rfl); simp only [Act.put, List.setIfInBounds_toArray, List.set_cons_zero, List.set_cons_succ])
      (refine fl_val (v := ?_) (by rfl) ?_ ?_; rotate_left; (intro w' hS; obtain ⟨f1,f2⟩ := hF w' hS; go_simp; with_reducible rfl); simp only [Act.put, List.setIfInBounds_toArray, List.set_cons_zero, List.set_cons_succ])
      (refine fl_off (by rfl) ?_; simp only [Act.put, List.setIfInBounds_toArray, List.set_cons_zero, List.set_cons_succ])
      (refine fl_off (by rfl) ?_; simp only [Act.put, List.setIfInBounds_toArray, List.set_cons_zero, List.set_cons_succ])
      (refine fl_off (by rfl) ?_; simp only [Act.put, List.setIfInBounds_toArray, List.set_cons_zero, List.set_cons_succ])
      (refine fl_off (by rfl) ?_; simp only [Act.put, List.setIfInBounds_toArray, List.set_cons_zero, List.set_cons_succ])
      (refine fl_off (by rfl) ?_; simp only [Act.put, List.setIfInBounds_toArray, List.set_cons_zero, List.set_cons_succ])
      (refine fl_off (by rfl) ?_; simp only [Act.put, List.setIfInBounds_toArray, List.set_cons_zero, List.set_cons_succ])
      (refine fl_off (by rfl) ?_; simp only [Act.put, List.setIfInBounds_toArray, List.set_cons_zero, List.set_cons_succ])
      (refine fl_val (v := ?_) (by rfl) ?_ ?_; rotate_left; (intro w' hS; obtain ⟨f1,f2⟩ := hF w' hS; go_simp; with_reducible rfl); simp only [Act.put, List.setIfInBounds_toArray, List.set_cons_zero, List.set_cons_succ])
      refine fl_nil ?_
      intro w6 hS
      have HK6 := Lib.hid (HK5.out.then hS)
      have HALm := HAl w6 (K0.then HK6.out)
      clear hS hF
      go_wp2_with fail
      refine HALm.out.mono ?_
      rintro e wl ⟨rfl, kl⟩
      go_wp2
      go_ret
      exact ⟨rfl, (K0.then HK6.out).then kl⟩
    · have q0 : decide (edge < 0) = false := decide_eq_false (by omega)
      have q1 : decide ((x.edges.length : Int) ≤ edge) = true := decide_eq_true he
      go_wp2
      refine wp_region_flow (Keep [] w5) rfl (by kernel_rfl) (Keep.refl _ _).drew ?_
      (refine fl_val (v := ?_) (by rfl) ?_ ?_; rotate_left; (intro w' hS; obtain ⟨f1,f2⟩ := hF w' hS; go_simp; with_reducible rfl); simp only [Act.put, List.setIfInBounds_toArray, List.set_cons_zero, List.set_cons_succ])
      (refine fl_val (v := ?_) (by rfl) ?_ ?_; rotate_left; (intro w' hS; obtain ⟨f1,f2⟩ := hF w' hS; go_simp; with_reducible rfl); simp only [Act.put, List.setIfInBounds_toArray, List.set_cons_zero, List.set_cons_succ])
      (refine fl_val (v := ?_) (by rfl) ?_ ?_; rotate_left; (intro w' hS; obtain ⟨f1,f2⟩ := hF w' hS; go_simp; with_reducible rfl); simp only [Act.put, List.setIfInBounds_toArray, List.set_cons_zero, List.set_cons_succ])
      (refine fl_val (v := ?_) (by rfl) ?_ ?_; rotate_left; (intro w' hS; obtain ⟨f1,f2⟩ := hF w' hS; go_simp; with_reducible rfl); simp only [Act.put, List.setIfInBounds_toArray, List.set_cons_zero, List.set_cons_succ])
      (refine fl_val (v := ?_) (by rfl) ?_ ?_; rotate_left; (intro w' hS; obtain ⟨f1,f2⟩ := hF w' hS; go_simp; with_reducible rfl); simp only [Act.put, List.setIfInBounds_toArray, List.set_cons_zero, List.set_cons_succ])
      (refine fl_val (v := ?_) (by rfl) ?_ ?_; rotate_left; (intro w' hS; obtain ⟨f1,f2⟩ := hF w' hS; go_simp; with_reducible rfl); simp only [Act.put, List.setIfInBounds_toArray, List.set_cons_zero, List.set_cons_succ])
      (refine fl_val (v := ?_) (by rfl) ?_ ?_; rotate_left; (intro w' hS; obtain ⟨f1,f2⟩ := hF w' hS; go_simp; with_reducible rfl); simp only [Act.put, List.setIfInBounds_toArray, List.set_cons_zero, List.set_cons_succ])
      (refine fl_val (v := ?_) (by rfl) ?_ ?_; rotate_left; (intro w' hS; obtain ⟨f1,f2⟩ := hF w' hS; go_simp; with_reducible rfl); simp only [Act.put, List.setIfInBounds_toArray, List.set_cons_zero, List.set_cons_succ])
      (refine fl_val (v := ?_) (by rfl) ?_ ?_; rotate_left; (intro w' hS; obtain ⟨f1,f2⟩ := hF w' hS; go_simp; with_reducible rfl); simp only [Act.put, List.setIfInBounds_toArray, List.set_cons_zero, List.set_cons_succ])
      (refine fl_val (v := ?_) (by rfl) ?_ ?_; rotate_left; (intro w' hS; obtain ⟨f1,f2⟩ := hF w' hS; go_simp; with_reducible rfl); simp only [Act.put, List.setIfInBounds_toArray, List.set_cons_zero, List.set_cons_succ])
      (refine fl_off (by rfl) ?_; simp only [Act.put, List.setIfInBounds_toArray, List.set_cons_zero, List.set_cons_succ])
      (refine fl_off (by rfl) ?_; simp only [Act.put, List.setIfInBounds_toArray, List.set_cons_zero, List.set_cons_succ])
      (refine fl_off (by rfl) ?_; simp only [Act.put, List.setIfInBounds_toArray, List.set_cons_zero, List.set_cons_succ])
      (refine fl_off (by rfl) ?_; simp only [Act.put, List.setIfInBounds_toArray, List.set_cons_zero, List.set_cons_succ])
      (refine fl_off (by rfl) ?_; simp only [Act.put, List.setIfInBounds_toArray, List.set_cons_zero, List.set_cons_succ])
      (refine fl_off (by rfl) ?_; simp only [Act.put, List.setIfInBounds_toArray, List.set_cons_zero, List.set_cons_succ])
      (refine fl_off (by rfl) ?_; simp only [Act.put, List.setIfInBounds_toArray, List.set_cons_zero, List.set_cons_succ])
      (refine fl_val (v := ?_) (by rfl) ?_ ?_; rotate_left; (intro w' hS; obtain ⟨f1,f2⟩ := hF w' hS; go_simp; with_reducible rfl); simp only [Act.put, List.setIfInBounds_toArray, List.set_cons_zero, List.set_cons_succ])
      refine fl_nil ?_
      intro w6 hS
      have HK6 := Lib.hid (HK5.out.then hS)
      have HALm := HAl w6 (K0.then HK6.out)
      clear hS hF
      go_wp2_with fail
      refine HALm.out.mono ?_
      rintro e wl ⟨rfl, kl⟩
      go_wp2
      go_ret
      exact ⟨rfl, (K0.then HK6.out).then kl⟩
  · obtain ⟨k, rfl⟩ : ∃ k : Nat, edge = (k : Int) := ⟨edge.toNat, by omega⟩
    have hk : k < x.edges.length := by omega
    obtain ⟨f, t, hX⟩ := edX_of hx0 HI.out.ok hk
    have hE := edW_of hx0 HI.out.ok hk
    have HCo := Lib.hid (common_any v x k w3 (HTB.out.keep0 (K0.then HK3.out)) (HI.out.keep0 (K0.then HK3.out)) hE)
    have HAll := fun (n : Int) w' hk => Lib.hid (all20_any v x k f t n w' (HI.out.keep0 (w' := w') hk) hX)
    have HFt := fun (N : List Int) (hN : OffOk N) w' hk => Lib.hid (fits20_any v x k N w' (HTB.out.keep0 (w' := w') hk) (HI.out.keep0 hk) hE hN)
    have HCR0 : Hid (commonR x k = if fitsB x k (farL (clsE x k).new 16384) = true then halve (fun n => fitsB x k (farL (clsE x k).new n)) 16384 0 16384 else 0) := show _ = _ from rfl
    have HBK0 : Hid (findB x k = fitsB x k (farL (clsE x k).new 16384)) := show _ = _ from rfl
    have hfok := fun (z : Int) (hz : 0 ≤ z ∧ z ≤ 16384) => farL_ok (clsE x k).new hz
    have hflo := hfok 16384 (by omega)
    rw [HIL.out] at HCo HAll HFt
    have q0 : decide ((k : Int) < 0) = false := decide_eq_false (by omega)
    have q1 : decide ((x.edges.length : Int) ≤ (k : Int)) = false := decide_eq_false (by omega)
    have q1n : decide (x.edges.length ≤ k) = false := decide_eq_false (by omega)
    clear hX hE hx0 hedge
    generalize (clsE x k).new = nw at *
    generalize fitsB x k = P at *
    generalize commonR x k = cr at *
    generalize findB x k = fb at *
    go_wp2_with (refine wpList_load_agg rfl 26 (.tmp 2) rfl rfl (cs := il) (by rw [HIC.out]; exact agg_image) hc3.out ?_)
    refine HCo.out.mono ?_
    rintro e w5 ⟨rfl, k5⟩
    have HK5 := Lib.hid (HK3.out.then k5)
    clear k5 hc3 HCo
    have hF : ∀ w', Keep [] w5 w' → w'.cell? ⟨w.heap.size, 3, none⟩ = some (.slice v.ea x.edges.length v.ec) ∧ True := fun w' hk => ⟨HI1.out w' (HK5.out.then hk), trivial⟩
    have hCA : ∀ w', Keep [] w5 w' → CellsAt w' w.heap.size 0 il := fun w' hk => HC0.out w' (HK5.out.then hk)
    have HKX : ∀ w', Keep [] w5 w' → Keep [] w w' := fun w' hk => (K0.then HK5.out).then hk
    cases hfb : P (farL nw 16384) with
    | false =>
      have hCR := HCR0.out
      have hBK := HBK0.out
      clear HCR0 HBK0
      rw [hfb, if_neg (by simp)] at hCR
      rw [hfb] at hBK
      subst hCR hBK
      go_wp2
      refine wp_region_flow (Keep [] w5) rfl (by kernel_rfl) (Keep.refl _ _).drew ?_
      (refine fl_val (v := ?_) (by rfl) ?_ ?_; rotate_left; (intro w' hS; obtain ⟨f1,f2⟩ := hF w' hS; go_simp; with_reducible rfl); simp only [Act.put, List.setIfInBounds_toArray, List.set_cons_zero, List.set_cons_succ])
      (refine fl_val (v := ?_) (by rfl) ?_ ?_; rotate_left; (intro w' hS; obtain ⟨f1,f2⟩ := hF w' hS; go_simp; with_reducible rfl); simp only [Act.put, List.setIfInBounds_toArray, List.set_cons_zero, List.set_cons_succ])
      (refine fl_val (v := ?_) (by rfl) ?_ ?_; rotate_left; (intro w' hS; obtain ⟨f1,f2⟩ := hF w' hS; go_simp; with_reducible rfl); simp only [Act.put, List.setIfInBounds_toArray, List.set_cons_zero, List.set_cons_succ])
      (refine fl_val (v := ?_) (by rfl) ?_ ?_; rotate_left; (intro w' hS; obtain ⟨f1,f2⟩ := hF w' hS; go_simp; with_reducible rfl); simp only [Act.put, List.setIfInBounds_toArray, List.set_cons_zero, List.set_cons_succ])
      (refine fl_val (v := ?_) (by rfl) ?_ ?_; rotate_left; (intro w' hS; obtain ⟨f1,f2⟩ := hF w' hS; go_simp; with_reducible rfl); simp only [Act.put, List.setIfInBounds_toArray, List.set_cons_zero, List.set_cons_succ])
      (refine fl_val (v := ?_) (by rfl) ?_ ?_; rotate_left; (intro w' hS; obtain ⟨f1,f2⟩ := hF w' hS; go_simp; with_reducible rfl); simp only [Act.put, List.setIfInBounds_toArray, List.set_cons_zero, List.set_cons_succ])
      (refine fl_val (v := ?_) (by rfl) ?_ ?_; rotate_left; (intro w' hS; obtain ⟨f1,f2⟩ := hF w' hS; go_simp; with_reducible rfl); simp only [Act.put, List.setIfInBounds_toArray, List.set_cons_zero, List.set_cons_succ])
      (refine fl_val (v := ?_) (by rfl) ?_ ?_; rotate_left; (intro w' hS; obtain ⟨f1,f2⟩ := hF w' hS; go_simp; with_reducible rfl); simp only [Act.put, List.setIfInBounds_toArray, List.set_cons_zero, List.set_cons_succ])
      (refine fl_val (v := ?_) (by rfl) ?_ ?_; rotate_left; (intro w' hS; obtain ⟨f1,f2⟩ := hF w' hS; go_simp; with_reducible rfl); simp only [Act.put, List.setIfInBounds_toArray, List.set_cons_zero, List.set_cons_succ])
      (refine fl_val (v := ?_) (by rfl) ?_ ?_; rotate_left; (intro w' hS; obtain ⟨f1,f2⟩ := hF w' hS; go_simp; with_reducible rfl); simp only [Act.put, List.setIfInBounds_toArray, List.set_cons_zero, List.set_cons_succ])
      refine fl_agg 26 (.tmp 2) il rfl rfl rfl (by rw [HIC.out]; exact agg_image) hCA ?_
      simp only [Act.put, List.setIfInBounds_toArray, List.set_cons_zero, List.set_cons_succ]
      (refine fl_val (v := ?_) (by rfl) ?_ ?_; rotate_left; (intro w' hS; obtain ⟨f1,f2⟩ := hF w' hS; go_simp; with_reducible rfl); simp only [Act.put, List.setIfInBounds_toArray, List.set_cons_zero, List.set_cons_succ])
      refine fl_agg 26 (.tmp 2) il rfl rfl rfl (by rw [HIC.out]; exact agg_image) hCA ?_
      simp only [Act.put, List.setIfInBounds_toArray, List.set_cons_zero, List.set_cons_succ]
      (refine fl_val (v := ?_) (by rfl) ?_ ?_; rotate_left; (intro w' hS; obtain ⟨f1,f2⟩ := hF w' hS; go_simp; with_reducible rfl); simp only [Act.put, List.setIfInBounds_toArray, List.set_cons_zero, List.set_cons_succ])
      refine fl_call (f := 25) (v := .agg (iv (farL nw 16384)).toArray) (by rfl) rfl (by simp only [List.map_toArray, List.map_cons, List.map_nil]; rfl) Tryd.func25 (by kernel_rfl) (by kernel_rfl) (fun w' hS => ((HAll 16384 w' (HKX w' hS)).out.mono (fun e w'' h => ⟨h.1, hS.then h.2⟩))) ?_; simp only [Act.put, List.setIfInBounds_toArray, List.set_cons_zero, List.set_cons_succ]
      refine fl_call (f := 24) (v := .bool false) (by rfl) rfl (by simp only [List.map_toArray, List.map_cons, List.map_nil]; rfl) Tryd.func24 (by kernel_rfl) (by kernel_rfl) (fun w' hS => ((HFt (farL nw 16384) hflo w' (HKX w' hS)).out.mono (fun e w'' h => ⟨by rw [h.1, hfb], hS.then h.2⟩))) ?_; simp only [Act.put, List.setIfInBounds_toArray, List.set_cons_zero, List.set_cons_succ]
      (refine fl_val (v := ?_) (by rfl) ?_ ?_; rotate_left; (intro w' hS; obtain ⟨f1,f2⟩ := hF w' hS; go_simp; with_reducible rfl); simp only [Act.put, List.setIfInBounds_toArray, List.set_cons_zero, List.set_cons_succ])
      (refine fl_val (v := ?_) (by rfl) ?_ ?_; rotate_left; (intro w' hS; obtain ⟨f1,f2⟩ := hF w' hS; go_simp; with_reducible rfl); simp only [Act.put, List.setIfInBounds_toArray, List.set_cons_zero, List.set_cons_succ])
      refine fl_nil ?_
      intro w6 hS
      have HK6 := Lib.hid (HK5.out.then hS)
      have HALm := HAl w6 (K0.then HK6.out)
      clear hS hF hCA HKX HAll HFt
      go_wp2_with fail
      refine HALm.out.mono ?_
      rintro e wl ⟨rfl, kl⟩
      go_wp2
      go_ret
      exact ⟨rfl, (K0.then HK6.out).then kl⟩
    | true =>
      have hCR := HCR0.out
      have hBK := HBK0.out
      clear HCR0 HBK0
      rw [hfb, if_pos rfl] at hCR
      rw [hfb] at hBK
      subst hBK
      obtain ⟨c0, c1, c2, c3⟩ := halve_spec (fun n => P (farL nw n)) 16384 0 16384 (by omega) (by omega) (by omega) hfb (.inl rfl)
      rw [← hCR] at c0 c1 c2 c3
      have c2 : P (farL nw cr) = true := c2
      have c3 : cr = 0 ∨ P (farL nw (cr - 1)) = false := c3
      have hcro := hfok cr ⟨c0, c1⟩
      have g0 : decide (cr < 0) = false := decide_eq_false (by omega)
      have g1 : decide (16384 < cr) = false := decide_eq_false (by omega)
      clear hCR
      go_wp2
      refine wp_region_flow (Keep [] w5) rfl (by kernel_rfl) (Keep.refl _ _).drew ?_
      (refine fl_val (v := ?_) (by rfl) ?_ ?_; rotate_left; (intro w' hS; obtain ⟨f1,f2⟩ := hF w' hS; go_simp; with_reducible rfl); simp only [Act.put, List.setIfInBounds_toArray, List.set_cons_zero, List.set_cons_succ])
      (refine fl_val (v := ?_) (by rfl) ?_ ?_; rotate_left; (intro w' hS; obtain ⟨f1,f2⟩ := hF w' hS; go_simp; with_reducible rfl); simp only [Act.put, List.setIfInBounds_toArray, List.set_cons_zero, List.set_cons_succ])
      (refine fl_val (v := ?_) (by rfl) ?_ ?_; rotate_left; (intro w' hS; obtain ⟨f1,f2⟩ := hF w' hS; go_simp; with_reducible rfl); simp only [Act.put, List.setIfInBounds_toArray, List.set_cons_zero, List.set_cons_succ])
      (refine fl_val (v := ?_) (by rfl) ?_ ?_; rotate_left; (intro w' hS; obtain ⟨f1,f2⟩ := hF w' hS; go_simp; with_reducible rfl); simp only [Act.put, List.setIfInBounds_toArray, List.set_cons_zero, List.set_cons_succ])
      (refine fl_val (v := ?_) (by rfl) ?_ ?_; rotate_left; (intro w' hS; obtain ⟨f1,f2⟩ := hF w' hS; go_simp; with_reducible rfl); simp only [Act.put, List.setIfInBounds_toArray, List.set_cons_zero, List.set_cons_succ])
      (refine fl_val (v := ?_) (by rfl) ?_ ?_; rotate_left; (intro w' hS; obtain ⟨f1,f2⟩ := hF w' hS; go_simp; with_reducible rfl); simp only [Act.put, List.setIfInBounds_toArray, List.set_cons_zero, List.set_cons_succ])
      (refine fl_val (v := ?_) (by rfl) ?_ ?_; rotate_left; (intro w' hS; obtain ⟨f1,f2⟩ := hF w' hS; go_simp; with_reducible rfl); simp only [Act.put, List.setIfInBounds_toArray, List.set_cons_zero, List.set_cons_succ])
      (refine fl_val (v := ?_) (by rfl) ?_ ?_; rotate_left; (intro w' hS; obtain ⟨f1,f2⟩ := hF w' hS; go_simp; with_reducible rfl); simp only [Act.put, List.setIfInBounds_toArray, List.set_cons_zero, List.set_cons_succ])
      (refine fl_val (v := ?_) (by rfl) ?_ ?_; rotate_left; (intro w' hS; obtain ⟨f1,f2⟩ := hF w' hS; go_simp; with_reducible rfl); simp only [Act.put, List.setIfInBounds_toArray, List.set_cons_zero, List.set_cons_succ])
      (refine fl_val (v := ?_) (by rfl) ?_ ?_; rotate_left; (intro w' hS; obtain ⟨f1,f2⟩ := hF w' hS; go_simp; with_reducible rfl); simp only [Act.put, List.setIfInBounds_toArray, List.set_cons_zero, List.set_cons_succ])
      refine fl_agg 26 (.tmp 2) il rfl rfl rfl (by rw [HIC.out]; exact agg_image) hCA ?_
      simp only [Act.put, List.setIfInBounds_toArray, List.set_cons_zero, List.set_cons_succ]
      (refine fl_val (v := ?_) (by rfl) ?_ ?_; rotate_left; (intro w' hS; obtain ⟨f1,f2⟩ := hF w' hS; go_simp; with_reducible rfl); simp only [Act.put, List.setIfInBounds_toArray, List.set_cons_zero, List.set_cons_succ])
      refine fl_agg 26 (.tmp 2) il rfl rfl rfl (by rw [HIC.out]; exact agg_image) hCA ?_
      simp only [Act.put, List.setIfInBounds_toArray, List.set_cons_zero, List.set_cons_succ]
      (refine fl_val (v := ?_) (by rfl) ?_ ?_; rotate_left; (intro w' hS; obtain ⟨f1,f2⟩ := hF w' hS; go_simp; with_reducible rfl); simp only [Act.put, List.setIfInBounds_toArray, List.set_cons_zero, List.set_cons_succ])
      refine fl_call (f := 25) (v := .agg (iv (farL nw 16384)).toArray) (by rfl) rfl (by simp only [List.map_toArray, List.map_cons, List.map_nil]; rfl) Tryd.func25 (by kernel_rfl) (by kernel_rfl) (fun w' hS => ((HAll 16384 w' (HKX w' hS)).out.mono (fun e w'' h => ⟨h.1, hS.then h.2⟩))) ?_; simp only [Act.put, List.setIfInBounds_toArray, List.set_cons_zero, List.set_cons_succ]
      refine fl_call (f := 24) (v := .bool true) (by rfl) rfl (by simp only [List.map_toArray, List.map_cons, List.map_nil]; rfl) Tryd.func24 (by kernel_rfl) (by kernel_rfl) (fun w' hS => ((HFt (farL nw 16384) hflo w' (HKX w' hS)).out.mono (fun e w'' h => ⟨by rw [h.1, hfb], hS.then h.2⟩))) ?_; simp only [Act.put, List.setIfInBounds_toArray, List.set_cons_zero, List.set_cons_succ]
      (refine fl_val (v := ?_) (by rfl) ?_ ?_; rotate_left; (intro w' hS; obtain ⟨f1,f2⟩ := hF w' hS; go_simp; with_reducible rfl); simp only [Act.put, List.setIfInBounds_toArray, List.set_cons_zero, List.set_cons_succ])
      (refine fl_val (v := ?_) (by rfl) ?_ ?_; rotate_left; (intro w' hS; obtain ⟨f1,f2⟩ := hF w' hS; go_simp; with_reducible rfl); simp only [Act.put, List.setIfInBounds_toArray, List.set_cons_zero, List.set_cons_succ])
      refine fl_nil ?_
      intro w6 hS
      have HS6 := Lib.hid hS
      clear hS
      replace hF : ∀ w', Keep [] w6 w' → w'.cell? ⟨w.heap.size, 3, none⟩ = some (.slice v.ea x.edges.length v.ec) ∧ True := fun w' hk => hF w' (HS6.out.then hk)
      replace hCA : ∀ w', Keep [] w6 w' → CellsAt w' w.heap.size 0 il := fun w' hk => hCA w' (HS6.out.then hk)
      replace HKX : ∀ w', Keep [] w6 w' → Keep [] w w' := fun w' hk => HKX w' (HS6.out.then hk)
      go_wp2
      refine wp_region_flow (Keep [] w6) rfl (by kernel_rfl) (Keep.refl _ _).drew ?_
      (refine fl_val (v := ?_) (by rfl) ?_ ?_; rotate_left; (intro w' hS; obtain ⟨f1,f2⟩ := hF w' hS; go_simp; with_reducible rfl); simp only [Act.put, List.setIfInBounds_toArray, List.set_cons_zero, List.set_cons_succ])
      (refine fl_val (v := ?_) (by rfl) ?_ ?_; rotate_left; (intro w' hS; obtain ⟨f1,f2⟩ := hF w' hS; go_simp; with_reducible rfl); simp only [Act.put, List.setIfInBounds_toArray, List.set_cons_zero, List.set_cons_succ])
      (refine fl_val (v := ?_) (by rfl) ?_ ?_; rotate_left; (intro w' hS; obtain ⟨f1,f2⟩ := hF w' hS; go_simp; with_reducible rfl); simp only [Act.put, List.setIfInBounds_toArray, List.set_cons_zero, List.set_cons_succ])
      (refine fl_val (v := ?_) (by rfl) ?_ ?_; rotate_left; (intro w' hS; obtain ⟨f1,f2⟩ := hF w' hS; go_simp; with_reducible rfl); simp only [Act.put, List.setIfInBounds_toArray, List.set_cons_zero, List.set_cons_succ])
      (refine fl_val (v := ?_) (by rfl) ?_ ?_; rotate_left; (intro w' hS; obtain ⟨f1,f2⟩ := hF w' hS; go_simp; with_reducible rfl); simp only [Act.put, List.setIfInBounds_toArray, List.set_cons_zero, List.set_cons_succ])
      (refine fl_val (v := ?_) (by rfl) ?_ ?_; rotate_left; (intro w' hS; obtain ⟨f1,f2⟩ := hF w' hS; go_simp; with_reducible rfl); simp only [Act.put, List.setIfInBounds_toArray, List.set_cons_zero, List.set_cons_succ])
      (refine fl_val (v := ?_) (by rfl) ?_ ?_; rotate_left; (intro w' hS; obtain ⟨f1,f2⟩ := hF w' hS; go_simp; with_reducible rfl); simp only [Act.put, List.setIfInBounds_toArray, List.set_cons_zero, List.set_cons_succ])
      (refine fl_val (v := ?_) (by rfl) ?_ ?_; rotate_left; (intro w' hS; obtain ⟨f1,f2⟩ := hF w' hS; go_simp; with_reducible rfl); simp only [Act.put, List.setIfInBounds_toArray, List.set_cons_zero, List.set_cons_succ])
      (refine fl_val (v := ?_) (by rfl) ?_ ?_; rotate_left; (intro w' hS; obtain ⟨f1,f2⟩ := hF w' hS; go_simp; with_reducible rfl); simp only [Act.put, List.setIfInBounds_toArray, List.set_cons_zero, List.set_cons_succ])
      (refine fl_val (v := ?_) (by rfl) ?_ ?_; rotate_left; (intro w' hS; obtain ⟨f1,f2⟩ := hF w' hS; go_simp; with_reducible rfl); simp only [Act.put, List.setIfInBounds_toArray, List.set_cons_zero, List.set_cons_succ])
      (refine fl_val (v := ?_) (by rfl) ?_ ?_; rotate_left; (intro w' hS; obtain ⟨f1,f2⟩ := hF w' hS; go_simp; with_reducible rfl); simp only [Act.put, List.setIfInBounds_toArray, List.set_cons_zero, List.set_cons_succ])
      refine fl_agg 26 (.tmp 2) il rfl rfl rfl (by rw [HIC.out]; exact agg_image) hCA ?_
      simp only [Act.put, List.setIfInBounds_toArray, List.set_cons_zero, List.set_cons_succ]
      (refine fl_val (v := ?_) (by rfl) ?_ ?_; rotate_left; (intro w' hS; obtain ⟨f1,f2⟩ := hF w' hS; go_simp; with_reducible rfl); simp only [Act.put, List.setIfInBounds_toArray, List.set_cons_zero, List.set_cons_succ])
      refine fl_agg 26 (.tmp 2) il rfl rfl rfl (by rw [HIC.out]; exact agg_image) hCA ?_
      simp only [Act.put, List.setIfInBounds_toArray, List.set_cons_zero, List.set_cons_succ]
      (refine fl_val (v := ?_) (by rfl) ?_ ?_; rotate_left; (intro w' hS; obtain ⟨f1,f2⟩ := hF w' hS; go_simp; with_reducible rfl); simp only [Act.put, List.setIfInBounds_toArray, List.set_cons_zero, List.set_cons_succ])
      (refine fl_val (v := ?_) (by rfl) ?_ ?_; rotate_left; (intro w' hS; obtain ⟨f1,f2⟩ := hF w' hS; go_simp; with_reducible rfl); simp only [Act.put, List.setIfInBounds_toArray, List.set_cons_zero, List.set_cons_succ])
      refine fl_call (f := 25) (v := .agg (iv (farL nw cr)).toArray) (by rfl) rfl (by simp only [List.map_toArray, List.map_cons, List.map_nil]; rfl) Tryd.func25 (by kernel_rfl) (by kernel_rfl) (fun w' hS => ((HAll cr w' (HKX w' hS)).out.mono (fun e w'' h => ⟨h.1, hS.then h.2⟩))) ?_; simp only [Act.put, List.setIfInBounds_toArray, List.set_cons_zero, List.set_cons_succ]
      refine fl_call (f := 24) (v := .bool true) (by rfl) rfl (by simp only [List.map_toArray, List.map_cons, List.map_nil]; rfl) Tryd.func24 (by kernel_rfl) (by kernel_rfl) (fun w' hS => ((HFt (farL nw cr) hcro w' (HKX w' hS)).out.mono (fun e w'' h => ⟨by rw [h.1, c2], hS.then h.2⟩))) ?_; simp only [Act.put, List.setIfInBounds_toArray, List.set_cons_zero, List.set_cons_succ]
      (refine fl_val (v := ?_) (by rfl) ?_ ?_; rotate_left; (intro w' hS; obtain ⟨f1,f2⟩ := hF w' hS; go_simp; with_reducible rfl); simp only [Act.put, List.setIfInBounds_toArray, List.set_cons_zero, List.set_cons_succ])
      (refine fl_val (v := ?_) (by rfl) ?_ ?_; rotate_left; (intro w' hS; obtain ⟨f1,f2⟩ := hF w' hS; go_simp; with_reducible rfl); simp only [Act.put, List.setIfInBounds_toArray, List.set_cons_zero, List.set_cons_succ])
      refine fl_nil ?_
      intro w7 hS
      have HS7 := Lib.hid hS
      clear hS
      replace hF : ∀ w', Keep [] w7 w' → w'.cell? ⟨w.heap.size, 3, none⟩ = some (.slice v.ea x.edges.length v.ec) ∧ True := fun w' hk => hF w' (HS7.out.then hk)
      replace hCA : ∀ w', Keep [] w7 w' → CellsAt w' w.heap.size 0 il := fun w' hk => hCA w' (HS7.out.then hk)
      replace HKX : ∀ w', Keep [] w7 w' → Keep [] w w' := fun w' hk => HKX w' (HS7.out.then hk)
      rcases c3 with rfl | c3
      · go_wp2
        refine wp_region_flow (Keep [] w7) rfl (by kernel_rfl) (Keep.refl _ _).drew ?_
        (refine fl_val (v := ?_) (by rfl) ?_ ?_; rotate_left; (intro w' hS; obtain ⟨f1,f2⟩ := hF w' hS; go_simp; with_reducible rfl); simp only [Act.put, List.setIfInBounds_toArray, List.set_cons_zero, List.set_cons_succ])
        (refine fl_val (v := ?_) (by rfl) ?_ ?_; rotate_left; (intro w' hS; obtain ⟨f1,f2⟩ := hF w' hS; go_simp; with_reducible rfl); simp only [Act.put, List.setIfInBounds_toArray, List.set_cons_zero, List.set_cons_succ])
        (refine fl_val (v := ?_) (by rfl) ?_ ?_; rotate_left; (intro w' hS; obtain ⟨f1,f2⟩ := hF w' hS; go_simp; with_reducible rfl); simp only [Act.put, List.setIfInBounds_toArray, List.set_cons_zero, List.set_cons_succ])
        (refine fl_off (by rfl) ?_; simp only [Act.put, List.setIfInBounds_toArray, List.set_cons_zero, List.set_cons_succ])
        (refine fl_off (by rfl) ?_; simp only [Act.put, List.setIfInBounds_toArray, List.set_cons_zero, List.set_cons_succ])
        (refine fl_off (by rfl) ?_; simp only [Act.put, List.setIfInBounds_toArray, List.set_cons_zero, List.set_cons_succ])
        (refine fl_off (by rfl) ?_; simp only [Act.put, List.setIfInBounds_toArray, List.set_cons_zero, List.set_cons_succ])
        (refine fl_off (by rfl) ?_; simp only [Act.put, List.setIfInBounds_toArray, List.set_cons_zero, List.set_cons_succ])
        (refine fl_off (by rfl) ?_; simp only [Act.put, List.setIfInBounds_toArray, List.set_cons_zero, List.set_cons_succ])
        (refine fl_off (by rfl) ?_; simp only [Act.put, List.setIfInBounds_toArray, List.set_cons_zero, List.set_cons_succ])
        (refine fl_off (by rfl) ?_; simp only [Act.put, List.setIfInBounds_toArray, List.set_cons_zero, List.set_cons_succ])
        (refine fl_off (by rfl) ?_; simp only [Act.put, List.setIfInBounds_toArray, List.set_cons_zero, List.set_cons_succ])
        (refine fl_val (v := ?_) (by rfl) ?_ ?_; rotate_left; (intro w' hS; obtain ⟨f1,f2⟩ := hF w' hS; go_simp; with_reducible rfl); simp only [Act.put, List.setIfInBounds_toArray, List.set_cons_zero, List.set_cons_succ])
        (refine fl_val (v := ?_) (by rfl) ?_ ?_; rotate_left; (intro w' hS; obtain ⟨f1,f2⟩ := hF w' hS; go_simp; with_reducible rfl); simp only [Act.put, List.setIfInBounds_toArray, List.set_cons_zero, List.set_cons_succ])
        refine fl_call (f := 26) (v := .bool true) (vs := #[]) (by rfl) rfl (by simp only [List.map_toArray, List.map_nil]) Tryd.func26 (by kernel_rfl) (by kernel_rfl) (fun w' hS => ((HAl w' (HKX w' hS)).out.mono (fun e w'' h => ⟨h.1, hS.then h.2⟩))) ?_; simp only [Act.put, List.setIfInBounds_toArray, List.set_cons_zero, List.set_cons_succ]
        (refine fl_val (v := ?_) (by rfl) ?_ ?_; rotate_left; (intro w' hS; obtain ⟨f1,f2⟩ := hF w' hS; go_simp; with_reducible rfl); simp only [Act.put, List.setIfInBounds_toArray, List.set_cons_zero, List.set_cons_succ])
        (refine fl_val (v := ?_) (by rfl) ?_ ?_; rotate_left; (intro w' hS; obtain ⟨f1,f2⟩ := hF w' hS; go_simp; with_reducible rfl); simp only [Act.put, List.setIfInBounds_toArray, List.set_cons_zero, List.set_cons_succ])
        refine fl_nil ?_
        intro w8 hS
        have HS8 := Lib.hid (HKX w8 hS)
        clear hS
        go_wp2
        go_ret
        exact ⟨rfl, HS8.out⟩
      · by_cases hz : cr = 0
        · subst hz
          go_wp2
          refine wp_region_flow (Keep [] w7) rfl (by kernel_rfl) (Keep.refl _ _).drew ?_
          (refine fl_val (v := ?_) (by rfl) ?_ ?_; rotate_left; (intro w' hS; obtain ⟨f1,f2⟩ := hF w' hS; go_simp; with_reducible rfl); simp only [Act.put, List.setIfInBounds_toArray, List.set_cons_zero, List.set_cons_succ])
          (refine fl_val (v := ?_) (by rfl) ?_ ?_; rotate_left; (intro w' hS; obtain ⟨f1,f2⟩ := hF w' hS; go_simp; with_reducible rfl); simp only [Act.put, List.setIfInBounds_toArray, List.set_cons_zero, List.set_cons_succ])
          (refine fl_val (v := ?_) (by rfl) ?_ ?_; rotate_left; (intro w' hS; obtain ⟨f1,f2⟩ := hF w' hS; go_simp; with_reducible rfl); simp only [Act.put, List.setIfInBounds_toArray, List.set_cons_zero, List.set_cons_succ])
          (refine fl_off (by rfl) ?_; simp only [Act.put, List.setIfInBounds_toArray, List.set_cons_zero, List.set_cons_succ])
          (refine fl_off (by rfl) ?_; simp only [Act.put, List.setIfInBounds_toArray, List.set_cons_zero, List.set_cons_succ])
          (refine fl_off (by rfl) ?_; simp only [Act.put, List.setIfInBounds_toArray, List.set_cons_zero, List.set_cons_succ])
          (refine fl_off (by rfl) ?_; simp only [Act.put, List.setIfInBounds_toArray, List.set_cons_zero, List.set_cons_succ])
          (refine fl_off (by rfl) ?_; simp only [Act.put, List.setIfInBounds_toArray, List.set_cons_zero, List.set_cons_succ])
          (refine fl_off (by rfl) ?_; simp only [Act.put, List.setIfInBounds_toArray, List.set_cons_zero, List.set_cons_succ])
          (refine fl_off (by rfl) ?_; simp only [Act.put, List.setIfInBounds_toArray, List.set_cons_zero, List.set_cons_succ])
          (refine fl_off (by rfl) ?_; simp only [Act.put, List.setIfInBounds_toArray, List.set_cons_zero, List.set_cons_succ])
          (refine fl_off (by rfl) ?_; simp only [Act.put, List.setIfInBounds_toArray, List.set_cons_zero, List.set_cons_succ])
          (refine fl_val (v := ?_) (by rfl) ?_ ?_; rotate_left; (intro w' hS; obtain ⟨f1,f2⟩ := hF w' hS; go_simp; with_reducible rfl); simp only [Act.put, List.setIfInBounds_toArray, List.set_cons_zero, List.set_cons_succ])
          (refine fl_val (v := ?_) (by rfl) ?_ ?_; rotate_left; (intro w' hS; obtain ⟨f1,f2⟩ := hF w' hS; go_simp; with_reducible rfl); simp only [Act.put, List.setIfInBounds_toArray, List.set_cons_zero, List.set_cons_succ])
          refine fl_call (f := 26) (v := .bool true) (vs := #[]) (by rfl) rfl (by simp only [List.map_toArray, List.map_nil]) Tryd.func26 (by kernel_rfl) (by kernel_rfl) (fun w' hS => ((HAl w' (HKX w' hS)).out.mono (fun e w'' h => ⟨h.1, hS.then h.2⟩))) ?_; simp only [Act.put, List.setIfInBounds_toArray, List.set_cons_zero, List.set_cons_succ]
          (refine fl_val (v := ?_) (by rfl) ?_ ?_; rotate_left; (intro w' hS; obtain ⟨f1,f2⟩ := hF w' hS; go_simp; with_reducible rfl); simp only [Act.put, List.setIfInBounds_toArray, List.set_cons_zero, List.set_cons_succ])
          (refine fl_val (v := ?_) (by rfl) ?_ ?_; rotate_left; (intro w' hS; obtain ⟨f1,f2⟩ := hF w' hS; go_simp; with_reducible rfl); simp only [Act.put, List.setIfInBounds_toArray, List.set_cons_zero, List.set_cons_succ])
          refine fl_nil ?_
          intro w8 hS
          have HS8 := Lib.hid (HKX w8 hS)
          clear hS
          go_wp2
          go_ret
          exact ⟨rfl, HS8.out⟩
        · have hz1 : ((cr : Int) == 0) = false := by simpa using hz
          have hw1 : IntKind.i64.wrap (cr - 1) = cr - 1 := IntWalk.i64_in _ (by omega)
          have hcrm := hfok (cr - 1) (by omega)
          go_wp2
          refine wp_region_flow (Keep [] w7) rfl (by kernel_rfl) (Keep.refl _ _).drew ?_
          (refine fl_val (v := ?_) (by rfl) ?_ ?_; rotate_left; (intro w' hS; obtain ⟨f1,f2⟩ := hF w' hS; go_simp; with_reducible rfl); simp only [Act.put, List.setIfInBounds_toArray, List.set_cons_zero, List.set_cons_succ])
          (refine fl_val (v := ?_) (by rfl) ?_ ?_; rotate_left; (intro w' hS; obtain ⟨f1,f2⟩ := hF w' hS; go_simp; with_reducible rfl); simp only [Act.put, List.setIfInBounds_toArray, List.set_cons_zero, List.set_cons_succ])
          (refine fl_val (v := ?_) (by rfl) ?_ ?_; rotate_left; (intro w' hS; obtain ⟨f1,f2⟩ := hF w' hS; go_simp; with_reducible rfl); simp only [Act.put, List.setIfInBounds_toArray, List.set_cons_zero, List.set_cons_succ])
          refine fl_agg 26 (.tmp 2) il rfl rfl rfl (by rw [HIC.out]; exact agg_image) hCA ?_
          simp only [Act.put, List.setIfInBounds_toArray, List.set_cons_zero, List.set_cons_succ]
          (refine fl_val (v := ?_) (by rfl) ?_ ?_; rotate_left; (intro w' hS; obtain ⟨f1,f2⟩ := hF w' hS; go_simp; with_reducible rfl); simp only [Act.put, List.setIfInBounds_toArray, List.set_cons_zero, List.set_cons_succ])
          refine fl_agg 26 (.tmp 2) il rfl rfl rfl (by rw [HIC.out]; exact agg_image) hCA ?_
          simp only [Act.put, List.setIfInBounds_toArray, List.set_cons_zero, List.set_cons_succ]
          (refine fl_val (v := ?_) (by rfl) ?_ ?_; rotate_left; (intro w' hS; obtain ⟨f1,f2⟩ := hF w' hS; go_simp; with_reducible rfl); simp only [Act.put, List.setIfInBounds_toArray, List.set_cons_zero, List.set_cons_succ])
          (refine fl_val (v := ?_) (by rfl) ?_ ?_; rotate_left; (intro w' hS; obtain ⟨f1,f2⟩ := hF w' hS; go_simp; with_reducible rfl); simp only [Act.put, List.setIfInBounds_toArray, List.set_cons_zero, List.set_cons_succ])
          (refine fl_val (v := ?_) (by rfl) ?_ ?_; rotate_left; (intro w' hS; obtain ⟨f1,f2⟩ := hF w' hS; go_simp; with_reducible rfl); simp only [Act.put, List.setIfInBounds_toArray, List.set_cons_zero, List.set_cons_succ])
          refine fl_call (f := 25) (v := .agg (iv (farL nw (cr - 1))).toArray) (by rfl) rfl (by simp only [List.map_toArray, List.map_cons, List.map_nil]; rfl) Tryd.func25 (by kernel_rfl) (by kernel_rfl) (fun w' hS => ((HAll (cr - 1) w' (HKX w' hS)).out.mono (fun e w'' h => ⟨h.1, hS.then h.2⟩))) ?_; simp only [Act.put, List.setIfInBounds_toArray, List.set_cons_zero, List.set_cons_succ]
          refine fl_call (f := 24) (v := .bool false) (by rfl) rfl (by simp only [List.map_toArray, List.map_cons, List.map_nil]; rfl) Tryd.func24 (by kernel_rfl) (by kernel_rfl) (fun w' hS => ((HFt (farL nw (cr - 1)) hcrm w' (HKX w' hS)).out.mono (fun e w'' h => ⟨by rw [h.1, c3], hS.then h.2⟩))) ?_; simp only [Act.put, List.setIfInBounds_toArray, List.set_cons_zero, List.set_cons_succ]
          (refine fl_val (v := ?_) (by rfl) ?_ ?_; rotate_left; (intro w' hS; obtain ⟨f1,f2⟩ := hF w' hS; go_simp; with_reducible rfl); simp only [Act.put, List.setIfInBounds_toArray, List.set_cons_zero, List.set_cons_succ])
          (refine fl_val (v := ?_) (by rfl) ?_ ?_; rotate_left; (intro w' hS; obtain ⟨f1,f2⟩ := hF w' hS; go_simp; with_reducible rfl); simp only [Act.put, List.setIfInBounds_toArray, List.set_cons_zero, List.set_cons_succ])
          (refine fl_val (v := ?_) (by rfl) ?_ ?_; rotate_left; (intro w' hS; obtain ⟨f1,f2⟩ := hF w' hS; go_simp; with_reducible rfl); simp only [Act.put, List.setIfInBounds_toArray, List.set_cons_zero, List.set_cons_succ])
          refine fl_call (f := 26) (v := .bool true) (vs := #[]) (by rfl) rfl (by simp only [List.map_toArray, List.map_nil]) Tryd.func26 (by kernel_rfl) (by kernel_rfl) (fun w' hS => ((HAl w' (HKX w' hS)).out.mono (fun e w'' h => ⟨h.1, hS.then h.2⟩))) ?_; simp only [Act.put, List.setIfInBounds_toArray, List.set_cons_zero, List.set_cons_succ]
          (refine fl_val (v := ?_) (by rfl) ?_ ?_; rotate_left; (intro w' hS; obtain ⟨f1,f2⟩ := hF w' hS; go_simp; with_reducible rfl); simp only [Act.put, List.setIfInBounds_toArray, List.set_cons_zero, List.set_cons_succ])
          (refine fl_val (v := ?_) (by rfl) ?_ ?_; rotate_left; (intro w' hS; obtain ⟨f1,f2⟩ := hF w' hS; go_simp; with_reducible rfl); simp only [Act.put, List.setIfInBounds_toArray, List.set_cons_zero, List.set_cons_succ])
          refine fl_nil ?_
          intro w8 hS
          have HS8 := Lib.hid (HKX w8 hS)
          clear hS
          go_wp2
          go_ret
          exact ⟨rfl, HS8.out⟩
end Go.Proofs.YtggjhjbcdnffnaaDoor
