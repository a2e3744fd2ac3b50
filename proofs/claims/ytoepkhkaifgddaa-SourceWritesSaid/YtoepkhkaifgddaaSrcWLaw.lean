/- The statement SourceWrites, walked for any image. No other condition. -/
import Derived.Test.YtoepkhkaifgddaaSrcW
import Derived.Test.YtoepkhkaifgddaaSrcR
import Derived.Test.YtoepkhkaifgddaaSrcPr
import Derived.Test.YtoepkhkaifgddaaSrcRt
namespace Go.Proofs.Ytoepkhkaifgddaa
open Go.RowKit

set_option maxRecDepth 100000 in
set_option maxHeartbeats 4000000 in
theorem sourceWrites_any (v : ImgV) (x : Img) (w : World) (h : ImgAt w v x) :
    Calls Try.prog 5 #[.agg (imgCells v x).toArray] w fun e w' => e = .returned (.bool true) ∧ Keep [] w w' := by
  have hb := img_box w v x
  have K0 := (Keep.refl [] w).alloc (.cells (imgCells v x).toArray 26)
  have HG := Lib.hid (great_any v x _ (h.keep0 K0))
  have HR := fun W hk => Lib.hid (right10_any v x W (h.keep0 hk))
  have HP : Hid (greatImg x = false → (chkImg x).2 = 0 → ∃ S, ∀ W, Keep [] w W → Calls Try.prog 20 #[.agg (imgCells v x).toArray] W (fun e w' => e = .returned (.string S) ∧ Keep [] W w') ∧ Calls Try.prog 21 #[.agg (imgCells v x).toArray] W (fun e w' => e = .returned (.string S) ∧ Keep [] W w')) := fun hg hr => by
    refine ⟨_, fun W hk => ⟨sprint_any v x W (h.keep0 hk) hg, ?_⟩⟩
    have := rprint_any v x W (h.keep0 hk) hg
    rw [(right_of hr).print_eq] at this
    exact this
  have HIL : Hid ((imgCells v x).length = 4) := show _ = _ from rfl
  have hc : Hid (∀ W, Keep [] (w.alloc (.cells (imgCells v x).toArray 26)) W → CellsAt W w.heap.size 0 (imgCells v x)) := fun W hk => (hb.keep0 hk).cellsAt
  have hc0 := Lib.hid hb.cellsAt
  clear h hb
  have HGR : Hid (∃ b, greatImg x = b) := ⟨_, rfl⟩
  have HRR : Hid (∃ b, ((chkImg x).2 == 0) = b) := ⟨_, rfl⟩
  obtain ⟨bg, hbg⟩ := HGR.out
  obtain ⟨br, hbr⟩ := HRR.out
  rw [hbg] at HG
  rw [hbr] at HR
  have HP2 : Hid (bg = false → br = true → ∃ S, ∀ W, Keep [] w W → Calls Try.prog 20 #[.agg (imgCells v x).toArray] W (fun e w' => e = .returned (.string S) ∧ Keep [] W w') ∧ Calls Try.prog 21 #[.agg (imgCells v x).toArray] W (fun e w' => e = .returned (.string S) ∧ Keep [] W w')) := fun h1 h2 => HP.out (by rw [hbg, h1]) (by rw [h2] at hbr; simpa using hbr)
  clear HP HGR HRR hbg hbr
  generalize imgCells v x = il at *
  cases bg
  · go_enter Try.func5, Try.ntmps5
    go_wp2_with (refine wpList_load_agg rfl 26 (.tmp 1) rfl rfl (cs := il) (by rw [HIL.out]; exact agg_image) hc0.out ?_)
    refine HG.out.mono ?_
    rintro e w1 ⟨rfl, k1⟩
    have K1 := Lib.hid (K0.then k1)
    have k1' := Lib.hid k1
    clear k1
    go_wp2_with (refine stop_at 6 rfl ?_)
    constructor
    refine load_agg_gd (by rfl) 26 (.tmp 1) rfl rfl (cs := il) (by rw [HIL.out]; exact agg_image) (hc.out _ k1'.out) ?_
    go_wp2_with fail
    refine (HR _ K1.out).out.mono ?_
    rintro e w2 ⟨rfl, k2⟩
    have K2 := Lib.hid (K1.out.then k2)
    have k2' := Lib.hid (k1'.out.then k2)
    clear k2
    cases br
    · clear HP2
      go_wp2
      go_ret
      exact ⟨rfl, K2.out⟩
    · obtain ⟨S, HS⟩ := HP2.out (by simp) (by simp)
      have HS1 := fun W hk => Lib.hid (HS W hk).1
      have HS2 := fun W hk => Lib.hid (HS W hk).2
      have HA := fun W => Lib.hid (alive12_any W)
      have hc2 : Hid (∀ W, Keep [] w2 W → CellsAt W w.heap.size 0 il) := fun W hk => hc.out W (k2'.out.then hk)
      have HSS : (S.toList == S.toList) = true := by simp
      clear HP2 HS HG HR hc hc0
      go_upto_region 9 with fail
      refine wp_region_flow (Keep [] w2) rfl (by kernel_rfl) (Keep.refl _ _).drew ?_
      refine fl_agg 26 (.tmp 1) il (by rfl) rfl rfl (by rw [HIL.out]; exact agg_image) (fun w' hS => hc2.out w' hS) ?_
      simp only [Act.put, List.setIfInBounds_toArray, List.set_cons_zero, List.set_cons_succ]
      refine fl_call (f := 20) (v := .string S) (by rfl) rfl (by simp only [List.map_toArray, List.map_cons, List.map_nil]; rfl) Try.func20 (by kernel_rfl) (by kernel_rfl) (fun w' hS => (HS1 w' (K2.out.then hS)).out.mono fun e w'' hh => ⟨hh.1, hS.then hh.2⟩) ?_; simp only [Act.put, List.setIfInBounds_toArray, List.set_cons_zero, List.set_cons_succ]
      refine fl_agg 26 (.tmp 1) il (by rfl) rfl rfl (by rw [HIL.out]; exact agg_image) (fun w' hS => hc2.out w' hS) ?_
      simp only [Act.put, List.setIfInBounds_toArray, List.set_cons_zero, List.set_cons_succ]
      refine fl_call (f := 21) (v := .string S) (by rfl) rfl (by simp only [List.map_toArray, List.map_cons, List.map_nil]; rfl) Try.func21 (by kernel_rfl) (by kernel_rfl) (fun w' hS => (HS2 w' (K2.out.then hS)).out.mono fun e w'' hh => ⟨hh.1, hS.then hh.2⟩) ?_; simp only [Act.put, List.setIfInBounds_toArray, List.set_cons_zero, List.set_cons_succ]
      (refine fl_val (v := .bool true) (by rfl) (fun w' _ => by go_simp) ?_; simp only [Act.put, List.setIfInBounds_toArray, List.set_cons_zero, List.set_cons_succ])
      (refine fl_val (v := .bool true) (by rfl) (fun w' _ => by go_simp) ?_; simp only [Act.put, List.setIfInBounds_toArray, List.set_cons_zero, List.set_cons_succ])
      refine fl_call (f := 13) (v := .bool true) (by rfl) rfl (vs := #[]) (by simp) Try.func13 (by kernel_rfl) (by kernel_rfl) (fun w' hS => (HA w').out.mono fun e w'' hh => ⟨hh.1, hS.then hh.2⟩) ?_
      simp only [Act.put, List.setIfInBounds_toArray, List.set_cons_zero, List.set_cons_succ]
      (refine fl_val (v := .bool true) (by rfl) (fun w' _ => by go_simp) ?_; simp only [Act.put, List.setIfInBounds_toArray, List.set_cons_zero, List.set_cons_succ])
      (refine fl_val (v := .bool true) (by rfl) (fun w' _ => by go_simp) ?_; simp only [Act.put, List.setIfInBounds_toArray, List.set_cons_zero, List.set_cons_succ])
      refine fl_nil ?_
      intro w4 hS
      go_wp2
      go_ret
      exact ⟨rfl, K2.out.then hS⟩
  · clear HP2 HR hc
    go_enter Try.func5, Try.ntmps5
    go_wp2_with (refine wpList_load_agg rfl 26 (.tmp 1) rfl rfl (cs := il) (by rw [HIL.out]; exact agg_image) hc0.out ?_)
    refine HG.out.mono ?_
    rintro e w1 ⟨rfl, k1⟩
    have K1 := Lib.hid (K0.then k1)
    clear k1
    go_wp2
    go_ret
    exact ⟨rfl, K1.out⟩
end Go.Proofs.Ytoepkhkaifgddaa
