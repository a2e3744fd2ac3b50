/- SensDeadlines: the law's walk. Condition: the table of math/bits lies where the program's text lays it. -/
import Derived.Test.YtnnnjcgddmhdmaaGreatDoorSensX
import Derived.Test.YtnnnjcgddmhdmaaGreatDoorCertFew
namespace Go.Proofs.YtnnnjcgddmhdmaaGreatDoor
open Go.RowKit
attribute [local go_sem] Oper.semAt_some

set_option maxRecDepth 100000 in
set_option maxHeartbeats 8000000 in
theorem sensDeadlines_any (v : ImgV) (x : Img) (task : Int) (w : World) (hTb : Tab w) (h : ImgAt w v x) :
    Calls Tryz.prog 5 #[.agg (imgCells v x).toArray, .int .i64 task] w fun e w' => e = .returned (.bool true) ∧ Keep [] w w' := by
  have hl := h.lt
  unfold maxLen at hl
  obtain ⟨W0, hW0⟩ : ∃ W0, w.alloc (.cells (imgCells v x).toArray 26) = W0 := ⟨_, rfl⟩
  have b0 : Blk W0 w.heap.size 26 (imgCells v x).toArray := by rw [← hW0]; exact img_box w v x
  have K0 : Keep [] w W0 := by rw [← hW0]; exact (Keep.refl [] w).alloc _
  have hz0 : W0.heap.size = w.heap.size + 1 := by rw [← hW0]; simp
  have HIC : Hid ((imgCells v x).length = 4) := show _ = _ from rfl
  have HCI := fun w' (k : Keep [] W0 w') => Lib.hid ((b0.keep0 k).cellsAt)
  have HI1 : Hid (∀ w', Keep [] W0 w' → w'.cell? ⟨w.heap.size, 1, none⟩ = some (.slice v.ta x.tasks.length v.tc)) := fun w' hk => img_c1 (b0.keep0 hk)
  have HF := Lib.hid (few21_any v x W0 (h.keep0 K0))
  have hfg : few21 x = true → FewOk x := fun hf => fewOk_of (by unfold few21 at hf; simp only [Bool.and_eq_true, Bool.not_eq_true'] at hf; exact hf.1)
  have HNo := fun w' (k : Keep [] W0 w') hno => Lib.hid (sded_no v x task w' (hTb.keep0 (K0.then k)) (h.keep0 (K0.then k)) hno)
  have HYes := fun (hG : FewOk x) (k : Nat) (hk : k < x.tasks.length) (ha : admB x = true) w' (k' : Keep [] W0 w') => Lib.hid (sded_yes v x k w' (hTb.keep0 (K0.then k')) (h.keep0 (K0.then k')) hG hk ha)
  have HRA := fun w' (k : Keep [] W0 w') => Lib.hid (radm_any v x w' (h.keep0 (K0.then k)))
  have HAl := fun w' (k : Keep [] W0 w') => Lib.hid (alive39 w' (hTb.keep0 (K0.then k)))
  have HI := Lib.hid h
  have HK0 := Lib.hid K0
  have HW := Lib.hid hW0
  have HZ0 := Lib.hid hz0
  clear h K0 hW0 b0 hTb hz0
  generalize hil : imgCells v x = il at *
  have HIL := Lib.hid hil
  clear hil
  cases hf : few21 x with
  | false =>
    rw [hf] at HF
    clear HNo HYes HRA HAl hfg
    go_enter Tryz.func5, Tryz.ntmps5
    go_wp2_with (first
      | rw [HW.out]
      | (refine wpList_load_agg rfl 26 (.tmp 2) rfl rfl (cs := il) (by rw [HIC.out]; exact agg_image) (HCI _ (Keep.refl _ _)).out ?_))
    refine HF.out.mono ?_
    rintro e w1 ⟨rfl, k1⟩
    go_wp2
    go_ret
    exact ⟨rfl, HK0.out.then k1⟩
  | true =>
  rw [hf] at HF
  replace HYes := HYes (hfg hf)
  have hG := hfg hf
  have HGT := Lib.hid hG.t
  clear hfg hf hG
  by_cases hno : task < 0 ∨ (x.tasks.length : Int) ≤ task ∨ admB x = false
  · have HN := fun w' k => HNo w' k hno
    clear HNo HYes
    have hc : (task < 0) ∨ (¬ task < 0 ∧ (x.tasks.length : Int) ≤ task) ∨ (¬ task < 0 ∧ ¬ (x.tasks.length : Int) ≤ task ∧ admB x = false) := by
      rcases hno with h1 | h1 | h1
      · exact .inl h1
      · by_cases h2 : task < 0
        · exact .inl h2
        · exact .inr (.inl ⟨h2, h1⟩)
      · by_cases h2 : task < 0
        · exact .inl h2
        · by_cases h3 : (x.tasks.length : Int) ≤ task
          · exact .inr (.inl ⟨h2, h3⟩)
          · exact .inr (.inr ⟨h2, h3, h1⟩)
    clear hno
    generalize x.tasks.length = nn at *
    rcases hc with h1 | ⟨h1, h2⟩ | ⟨h1, h2, h3⟩
    · have q0 : decide (task < 0) = true := decide_eq_true h1
      clear HRA
      go_enter Tryz.func5, Tryz.ntmps5
      go_wp2_with (first
        | rw [HW.out]
        | (refine wpList_load_agg rfl 26 (.tmp 2) rfl rfl (cs := il) (by rw [HIC.out]; exact agg_image) (HCI _ (Keep.refl _ _)).out ?_))
      refine HF.out.mono ?_
      rintro e w1 ⟨rfl, k1⟩
      have HK1 := Lib.hid k1
      have hcI := HCI w1 k1
      have HN1 := HN w1 k1
      clear k1 HN HF
      go_wp2_with (refine wpList_load_agg rfl 26 (.tmp 2) rfl rfl (cs := il) (by rw [HIC.out]; exact agg_image) hcI.out ?_)
      refine HN1.out.mono ?_
      rintro e w2 ⟨rfl, k2⟩
      have HK2 := Lib.hid (HK1.out.then k2)
      have HA2 := HAl w2 HK2.out
      clear k2 HN1 hcI
      go_wp2_with fail
      refine HA2.out.mono ?_
      rintro e w3 ⟨rfl, k3⟩
      go_wp2
      go_ret
      exact ⟨rfl, HK0.out.then (HK2.out.then k3)⟩
    · have q0 : decide (task < 0) = false := decide_eq_false h1
      have q1 : decide ((nn : Int) ≤ task) = true := decide_eq_true h2
      clear HRA
      go_enter Tryz.func5, Tryz.ntmps5
      go_wp2_with (first
        | rw [HW.out]
        | (refine wpList_load_agg rfl 26 (.tmp 2) rfl rfl (cs := il) (by rw [HIC.out]; exact agg_image) (HCI _ (Keep.refl _ _)).out ?_))
      refine HF.out.mono ?_
      rintro e w1 ⟨rfl, k1⟩
      have HK1 := Lib.hid k1
      have hcI := HCI w1 k1
      have HN1 := HN w1 k1
      clear k1 HN HF
      go_wp2_with (refine wpList_load_agg rfl 26 (.tmp 2) rfl rfl (cs := il) (by rw [HIC.out]; exact agg_image) hcI.out ?_)
      refine HN1.out.mono ?_
      rintro e w2 ⟨rfl, k2⟩
      have HK2 := Lib.hid (HK1.out.then k2)
      have HA2 := HAl w2 HK2.out
      have c1 := HI1.out w2 HK2.out
      clear k2 HN1 hcI
      go_wp2_with fail
      refine HA2.out.mono ?_
      rintro e w3 ⟨rfl, k3⟩
      go_wp2
      go_ret
      exact ⟨rfl, HK0.out.then (HK2.out.then k3)⟩
    · have q0 : decide (task < 0) = false := decide_eq_false h1
      have q1 : decide ((nn : Int) ≤ task) = false := decide_eq_false h2
      rw [h3] at HRA
      clear h3
      go_enter Tryz.func5, Tryz.ntmps5
      go_wp2_with (first
        | rw [HW.out]
        | (refine wpList_load_agg rfl 26 (.tmp 2) rfl rfl (cs := il) (by rw [HIC.out]; exact agg_image) (HCI _ (Keep.refl _ _)).out ?_))
      refine HF.out.mono ?_
      rintro e w1 ⟨rfl, k1⟩
      have HK1 := Lib.hid k1
      have hcI := HCI w1 k1
      have HN1 := HN w1 k1
      clear k1 HN HF
      go_wp2_with (refine wpList_load_agg rfl 26 (.tmp 2) rfl rfl (cs := il) (by rw [HIC.out]; exact agg_image) hcI.out ?_)
      refine HN1.out.mono ?_
      rintro e w2 ⟨rfl, k2⟩
      have HK2 := Lib.hid (HK1.out.then k2)
      have c1 := HI1.out w2 HK2.out
      have hcI2 := HCI w2 HK2.out
      have HR2 := HRA w2 HK2.out
      clear k2 HN1 hcI HRA
      go_wp2_with (refine wpList_agg_gd rfl 26 (.tmp 2) rfl rfl (cs := il) (by rw [HIC.out]; exact agg_image) hcI2.out ?_)
      refine HR2.out.mono ?_
      rintro e w3 ⟨rfl, k3⟩
      have HK3 := Lib.hid (HK2.out.then k3)
      have HA3 := HAl w3 HK3.out
      clear k3 HR2 hcI2 c1
      go_wp2_with fail
      refine HA3.out.mono ?_
      rintro e w4 ⟨rfl, k4⟩
      go_wp2
      go_ret
      exact ⟨rfl, HK0.out.then (HK3.out.then k4)⟩
  · have h1 : ¬ task < 0 := fun hh => hno (.inl hh)
    have h2 : ¬ (x.tasks.length : Int) ≤ task := fun hh => hno (.inr (.inl hh))
    have h3 : admB x = true := by cases e : admB x with
      | true => rfl
      | false => exact absurd (.inr (.inr e)) hno
    clear hno HNo
    obtain ⟨k, rfl⟩ : ∃ k : Nat, task = (k : Int) := ⟨task.toNat, by omega⟩
    have hk : k < x.tasks.length := by omega
    have hbd := adm_bound h3 hk
    have hlon := HI.out.ok.lon _ (List.getElem_mem hk)
    have HYk := HYes k hk h3
    rw [h3] at HRA
    have q0 : decide ((k : Int) < 0) = false := decide_eq_false h1
    have q1 : decide ((x.tasks.length : Int) ≤ (k : Int)) = false := decide_eq_false h2
    have q1n : decide (x.tasks.length ≤ k) = false := decide_eq_false (by omega)
    have p0 : (0 : Int) ≤ (k : Int) := by omega
    have p1 : (k : Int) < (x.tasks.length : Int) := by omega
    have HLW := fun (t : Tsk) (ht : t.lon.length = 8) w' (k' : Keep [] W0 w') => Lib.hid (lwith_any v x k t w' (HI.out.keep0 (HK0.out.then k')) hk HGT.out ht)
    rw [HIL.out] at HLW
    obtain ⟨b, o, hA, hbw, hcs⟩ := HI.out.task (by omega)
    have hbw0 := Nat.lt_of_lt_of_le hbw HK0.out.size
    have HTC : Hid (∀ w', Keep [] W0 w' → CellsAt w' b (o + k * 11) (tskCells x.tasks[k])) := fun w' k' => (hcs k hk).keep0 (HK0.out.then k') hbw
    rw [hA] at HI1
    clear h1 h2 h3 HYes hcs hA
    generalize x.tasks[k] = t at *
    have HT11 : Hid ((tskCells t).length = 11) := tskCells_len hlon
    have hTone : Hid (∀ u ∈ tskCells t, u.oneCell' = true) := iv_one _
    have HC1 : Hid ((tskCells t)[1]? = some (.int .i64 t.ded)) := show _ = _ from rfl
    have HC2 : Hid ((tskCells t)[2]? = some (.int .i64 t.cost)) := show _ = _ from rfl
    have HSET : Hid (∀ n : Int, (tskCells t).toArray.setIfInBounds 1 (.int .i64 n) = (tskCells (dedT t n)).toArray) := fun n => rfl
    have HLON : Hid (∀ n, (dedT t n).lon.length = 8) := fun n => hlon
    have HLEN : Hid (∀ n, (tskCells (dedT t n)).length = 11) := fun n => tskCells_len hlon
    have HBD := Lib.hid hbd
    clear hlon hbd
    go_enter Tryz.func5, Tryz.ntmps5
    go_wp2_with (first
      | rw [HW.out]
      | (refine wpList_load_agg rfl 26 (.tmp 2) rfl rfl (cs := il) (by rw [HIC.out]; exact agg_image) (HCI _ (Keep.refl _ _)).out ?_))
    refine HF.out.mono ?_
    rintro e w1 ⟨rfl, k1⟩
    have HK1 := Lib.hid k1
    have hcI := HCI w1 k1
    have HY1 := HYk w1 k1
    clear k1 HYk HF
    go_wp2_with (refine wpList_load_agg rfl 26 (.tmp 2) rfl rfl (cs := il) (by rw [HIC.out]; exact agg_image) hcI.out ?_)
    refine HY1.out.mono ?_
    rintro e w2 ⟨n, rfl, hco, k2⟩
    have HCO := Lib.hid hco
    have HK2 := Lib.hid (HK1.out.then k2)
    have c1 := HI1.out w2 HK2.out
    have hcI2 := HCI w2 HK2.out
    have HR2 := HRA w2 HK2.out
    clear k2 HY1 hcI HRA hco
    go_wp2_with (refine wpList_agg_gd rfl 26 (.tmp 2) rfl rfl (cs := il) (by rw [HIC.out]; exact agg_image) hcI2.out ?_)
    refine HR2.out.mono ?_
    rintro e w3 ⟨rfl, k3⟩
    have HK3 := Lib.hid (HK2.out.then k3)
    have d1 := HI1.out w3 HK3.out
    have hcT := Lib.hid (HTC.out w3 HK3.out)
    clear k3 HR2 hcI2 c1
    generalize htc : tskCells t = tc at *
    clear htc
    go_wp2_with (first
      | (refine wpList_load_agg rfl 33 (.tmp 45) rfl rfl (cs := tc) (by rw [HT11.out]; exact agg_task) hcT.out ?_)
      | (refine stop_store 33 (.tmp 7) (.tmp 46) rfl ?_))
    constructor
    refine wpList_store_all rfl 33 (.tmp 7) (.tmp 46) rfl rfl rfl (vs := tc) (by rw [HT11.out]; exact agg_task.2) (Blk.new _ _ _) hTone.out ?_ ?_
    · rw [HT11.out]; rfl
    intro w4 d4 k4
    have k34 : Keep [] w3 w4 := ((Keep.refl [] w3).alloc _).trans k4 (fun y hy hlt => by simp at hy; omega)
    have HK4 := Lib.hid (HK3.out.then k34)
    have hz4 : w3.heap.size < w4.heap.size := d4.lt
    have D4 := Lib.hid d4
    have e1 := d4.at_ HC1.out
    have e2 := d4.at_ HC2.out
    have hn1 : decide (n < t.cost) = false := decide_eq_false (by have := HCO.out.lo; omega)
    have hn2 : decide (t.ded < n) = false := decide_eq_false (by have := HCO.out.hi; omega)
    have HZ4 := Lib.hid hz4
    clear d4 k4 k34 d1 hcT HTC hz4
    go_wp2
    have HcT4 : ∀ w', Keep [] w4 w' → CellsAt w' w3.heap.size 0 tc := fun w' k' => (D4.out.keep0 k').cellsAt
    refine ap_begin 5 (Keep [] w4) rfl (Keep.refl _ _).drew (fun hS hPan => ?_) (fun _ _ d _ _ h => by cases d <;> exact h)
    refine ap_agg 0 33 (.tmp 7) tc rfl (by kernel_rfl) (by kernel_rfl) (by kernel_rfl) (by kernel_rfl) (by rfl) hPan rfl rfl (by rw [HT11.out]; exact agg_task) HcT4 hS ?_
    (simp only [Act.put, List.setIfInBounds_toArray, List.set_cons_zero, List.set_cons_succ])
    refine ap_agg 1 33 (.tmp 7) tc rfl (by kernel_rfl) (by kernel_rfl) (by kernel_rfl) (by kernel_rfl) (by rfl) hPan rfl rfl (by rw [HT11.out]; exact agg_task) HcT4 hS ?_
    (simp only [Act.put, List.setIfInBounds_toArray, List.set_cons_zero, List.set_cons_succ])
    clear HcT4 e1 e2 hn1 hn2
    generalize w4.drew = wd at *
    refine ap_two 2 3 (by kernel_rfl) ?_ ?_
    refine op_run (v := .pointer (some ⟨wd.heap.size, 0, none⟩)) (w' := wd.alloc (.cells #[.int .i64 0, .int .i64 0, .int .i64 0, .int .i64 0, .int .i64 0, .int .i64 0, .int .i64 0, .int .i64 0, .int .i64 0, .int .i64 0, .int .i64 0] 33)) 2 rfl (by rfl) (by go_simp) ?_
    have DA : Blk (wd.alloc (.cells #[.int .i64 0, .int .i64 0, .int .i64 0, .int .i64 0, .int .i64 0, .int .i64 0, .int .i64 0, .int .i64 0, .int .i64 0, .int .i64 0, .int .i64 0] 33)) wd.heap.size 33 #[.int .i64 0, .int .i64 0, .int .i64 0, .int .i64 0, .int .i64 0, .int .i64 0, .int .i64 0, .int .i64 0, .int .i64 0, .int .i64 0, .int .i64 0] := Blk.new _ _ _
    have hS1 : Keep [] w4 (wd.alloc (.cells #[.int .i64 0, .int .i64 0, .int .i64 0, .int .i64 0, .int .i64 0, .int .i64 0, .int .i64 0, .int .i64 0, .int .i64 0, .int .i64 0, .int .i64 0] 33)) := hS.alloc _
    have hzd := hS.size
    have hz1 : (wd.alloc (.cells #[.int .i64 0, .int .i64 0, .int .i64 0, .int .i64 0, .int .i64 0, .int .i64 0, .int .i64 0, .int .i64 0, .int .i64 0, .int .i64 0, .int .i64 0] 33)).heap.size = wd.heap.size + 1 := by simp
    obtain ⟨gA, hg1⟩ : ∃ g, wd.heap.size = g := ⟨_, rfl⟩
    rw [hg1] at DA hz1 hzd
    generalize wd.alloc (.cells #[.int .i64 0, .int .i64 0, .int .i64 0, .int .i64 0, .int .i64 0, .int .i64 0, .int .i64 0, .int .i64 0, .int .i64 0, .int .i64 0, .int .i64 0] 33) = we at *
    refine ⟨fun _ => hS1, ?_⟩
    rw [hg1]
    clear hg1
    (simp only [Act.put, List.setIfInBounds_toArray, List.set_cons_zero, List.set_cons_succ])
    refine ap_one 3 (by kernel_rfl) ?_
    refine op_run (v := .pointer (some ⟨we.heap.size, 0, none⟩)) (w' := we.alloc (.cells #[.int .i64 0, .int .i64 0, .int .i64 0, .int .i64 0, .int .i64 0, .int .i64 0, .int .i64 0, .int .i64 0, .int .i64 0, .int .i64 0, .int .i64 0] 33)) 3 rfl (by rfl) (by go_simp) ?_
    have DB : Blk (we.alloc (.cells #[.int .i64 0, .int .i64 0, .int .i64 0, .int .i64 0, .int .i64 0, .int .i64 0, .int .i64 0, .int .i64 0, .int .i64 0, .int .i64 0, .int .i64 0] 33)) we.heap.size 33 #[.int .i64 0, .int .i64 0, .int .i64 0, .int .i64 0, .int .i64 0, .int .i64 0, .int .i64 0, .int .i64 0, .int .i64 0, .int .i64 0, .int .i64 0] := Blk.new _ _ _
    replace DA := DA.alloc (.cells #[.int .i64 0, .int .i64 0, .int .i64 0, .int .i64 0, .int .i64 0, .int .i64 0, .int .i64 0, .int .i64 0, .int .i64 0, .int .i64 0, .int .i64 0] 33)
    have hS2 := hS1.alloc (.cells #[.int .i64 0, .int .i64 0, .int .i64 0, .int .i64 0, .int .i64 0, .int .i64 0, .int .i64 0, .int .i64 0, .int .i64 0, .int .i64 0, .int .i64 0] 33)
    obtain ⟨gB, hg2⟩ : ∃ g, we.heap.size = g := ⟨_, rfl⟩
    have hne : gA ≠ gB := by omega
    have hgA : w4.heap.size ≤ gA := by omega
    have hgB : w4.heap.size ≤ gB := by omega
    rw [hg2] at DB
    generalize we.alloc (.cells #[.int .i64 0, .int .i64 0, .int .i64 0, .int .i64 0, .int .i64 0, .int .i64 0, .int .i64 0, .int .i64 0, .int .i64 0, .int .i64 0, .int .i64 0] 33) = wf at *
    refine ⟨fun _ => hS2, ?_⟩
    rw [hg2]
    clear hg2 hz1 hzd hS1 hS
    (simp only [Act.put, List.setIfInBounds_toArray, List.set_cons_zero, List.set_cons_succ])
    rotate_left
    refine op_run (v := .pointer (some ⟨wd.heap.size, 0, none⟩)) (w' := wd.alloc (.cells #[.int .i64 0, .int .i64 0, .int .i64 0, .int .i64 0, .int .i64 0, .int .i64 0, .int .i64 0, .int .i64 0, .int .i64 0, .int .i64 0, .int .i64 0] 33)) 3 rfl (by rfl) (by go_simp) ?_
    have DB : Blk (wd.alloc (.cells #[.int .i64 0, .int .i64 0, .int .i64 0, .int .i64 0, .int .i64 0, .int .i64 0, .int .i64 0, .int .i64 0, .int .i64 0, .int .i64 0, .int .i64 0] 33)) wd.heap.size 33 #[.int .i64 0, .int .i64 0, .int .i64 0, .int .i64 0, .int .i64 0, .int .i64 0, .int .i64 0, .int .i64 0, .int .i64 0, .int .i64 0, .int .i64 0] := Blk.new _ _ _
    have hS1 : Keep [] w4 (wd.alloc (.cells #[.int .i64 0, .int .i64 0, .int .i64 0, .int .i64 0, .int .i64 0, .int .i64 0, .int .i64 0, .int .i64 0, .int .i64 0, .int .i64 0, .int .i64 0] 33)) := hS.alloc _
    have hzd := hS.size
    have hz1 : (wd.alloc (.cells #[.int .i64 0, .int .i64 0, .int .i64 0, .int .i64 0, .int .i64 0, .int .i64 0, .int .i64 0, .int .i64 0, .int .i64 0, .int .i64 0, .int .i64 0] 33)).heap.size = wd.heap.size + 1 := by simp
    obtain ⟨gB, hg1⟩ : ∃ g, wd.heap.size = g := ⟨_, rfl⟩
    rw [hg1] at DB hz1 hzd
    generalize wd.alloc (.cells #[.int .i64 0, .int .i64 0, .int .i64 0, .int .i64 0, .int .i64 0, .int .i64 0, .int .i64 0, .int .i64 0, .int .i64 0, .int .i64 0, .int .i64 0] 33) = we at *
    refine ⟨fun _ => hS1, ?_⟩
    rw [hg1]
    clear hg1
    (simp only [Act.put, List.setIfInBounds_toArray, List.set_cons_zero, List.set_cons_succ])
    refine ap_one 2 (by kernel_rfl) ?_
    refine op_run (v := .pointer (some ⟨we.heap.size, 0, none⟩)) (w' := we.alloc (.cells #[.int .i64 0, .int .i64 0, .int .i64 0, .int .i64 0, .int .i64 0, .int .i64 0, .int .i64 0, .int .i64 0, .int .i64 0, .int .i64 0, .int .i64 0] 33)) 2 rfl (by rfl) (by go_simp) ?_
    have DA : Blk (we.alloc (.cells #[.int .i64 0, .int .i64 0, .int .i64 0, .int .i64 0, .int .i64 0, .int .i64 0, .int .i64 0, .int .i64 0, .int .i64 0, .int .i64 0, .int .i64 0] 33)) we.heap.size 33 #[.int .i64 0, .int .i64 0, .int .i64 0, .int .i64 0, .int .i64 0, .int .i64 0, .int .i64 0, .int .i64 0, .int .i64 0, .int .i64 0, .int .i64 0] := Blk.new _ _ _
    replace DB := DB.alloc (.cells #[.int .i64 0, .int .i64 0, .int .i64 0, .int .i64 0, .int .i64 0, .int .i64 0, .int .i64 0, .int .i64 0, .int .i64 0, .int .i64 0, .int .i64 0] 33)
    have hS2 := hS1.alloc (.cells #[.int .i64 0, .int .i64 0, .int .i64 0, .int .i64 0, .int .i64 0, .int .i64 0, .int .i64 0, .int .i64 0, .int .i64 0, .int .i64 0, .int .i64 0] 33)
    obtain ⟨gA, hg2⟩ : ∃ g, we.heap.size = g := ⟨_, rfl⟩
    have hne : gA ≠ gB := by omega
    have hgA : w4.heap.size ≤ gA := by omega
    have hgB : w4.heap.size ≤ gB := by omega
    rw [hg2] at DA
    generalize we.alloc (.cells #[.int .i64 0, .int .i64 0, .int .i64 0, .int .i64 0, .int .i64 0, .int .i64 0, .int .i64 0, .int .i64 0, .int .i64 0, .int .i64 0, .int .i64 0] 33) = wf at *
    refine ⟨fun _ => hS2, ?_⟩
    rw [hg2]
    clear hg2 hz1 hzd hS1 hS
    (simp only [Act.put, List.setIfInBounds_toArray, List.set_cons_zero, List.set_cons_succ])
    rotate_left
    all_goals
      refine ap_one 4 (by kernel_rfl) ?_
      refine op_store_all (ty := 33) (vs := tc) 4 rfl (by rfl) rfl rfl rfl (by rw [HT11.out]; exact agg_task.2) DA hTone.out (by rw [HT11.out]; rfl) ?_
      intro wg EA k8
      have DB2 := DB.keep k8 (by simp; omega)
      have hSg : Keep [] w4 wg := hS2.trans k8 (fun y hy hlt => by simp at hy; omega)
      refine ⟨fun _ => hSg, ?_⟩
      (simp only [Act.put])
      refine ap_one 5 (by kernel_rfl) ?_
      refine op_store_all (ty := 33) (vs := tc) 5 rfl (by rfl) rfl rfl rfl (by rw [HT11.out]; exact agg_task.2) DB2 hTone.out (by rw [HT11.out]; rfl) ?_
      intro wh EB k9
      have EA2 := EA.keep k9 (by simp; omega)
      have hSh : Keep [] w4 wh := hSg.trans k9 (fun y hy hlt => by simp at hy; omega)
      refine ⟨fun h => (by cases h), ap_done (by kernel_rfl) ?_ _⟩
      (simp only [Act.put])
      have cA := EA2.at_ HC1.out
      have fA := EA2.frozen 1
      have A3 := EA2.set_ 1 (.int .i64 n)
      have B3 := EB.keep (keep_set wh gA 1 (.int .i64 n)) (by simp; omega)
      have hSi : Keep [] w4 (wh.setCell ⟨gA, 1, none⟩ (.int .i64 n)) := hSh.trans (keep_set wh gA 1 (.int .i64 n)) (fun y hy hlt => by simp at hy; omega)
      obtain ⟨wi, hwi⟩ : ∃ wi, wh.setCell ⟨gA, 1, none⟩ (.int .i64 n) = wi := ⟨_, rfl⟩
      rw [hwi] at A3 B3 hSi
      have cB := B3.at_ HC1.out
      have fB := B3.frozen 1
      have B4 := B3.set_ 1 (.int .i64 (n - 1))
      have A4 := A3.keep (keep_set wi gB 1 (.int .i64 (n - 1))) (by simp; omega)
      have hSj : Keep [] w4 (wi.setCell ⟨gB, 1, none⟩ (.int .i64 (n - 1))) := hSi.trans (keep_set wi gB 1 (.int .i64 (n - 1))) (fun y hy hlt => by simp at hy; omega)
      obtain ⟨wj, hwj⟩ : ∃ wj, wi.setCell ⟨gB, 1, none⟩ (.int .i64 (n - 1)) = wj := ⟨_, rfl⟩
      rw [hwj] at B4 A4 hSj
      rw [HSET.out] at A4 B4
      have hwr : IntKind.i64.wrap (n - 1) = n - 1 := IntWalk.i64_in _ (by have := HCO.out.lo; have := HCO.out.hi; have := HBD.out; omega)
      have HWI := Lib.hid hwi
      have HWJ := Lib.hid hwj
      have HKJ := Lib.hid (HK4.out.then hSj)
      have hcIJ := HCI wj HKJ.out
      have hcA := Lib.hid A4.cellsAt
      have HLA := HLW (dedT t n) (HLON.out n) wj HKJ.out
      have HLB := fun w' k' => HLW (dedT t (n - 1)) (HLON.out (n - 1)) w' k'
      have HB4 := Lib.hid B4
      have HD7 := Lib.hid (D4.out.keep0 hSj)
      clear hwi hwj A3 B3 B4 A4 hSi hSj hSh hSg EA EA2 EB k8 k9 DA DB DB2 hS2
      have HTA := Lib.hid (HLEN.out n)
      have HTB := Lib.hid (HLEN.out (n - 1))
      generalize tskCells (dedT t n) = ta at *
      generalize tskCells (dedT t (n - 1)) = tb at *
      go_wp2_with (first
        | rw [HWI.out]
        | rw [HWJ.out]
        | (refine wpList_load_agg rfl 26 (.tmp 2) rfl rfl (cs := il) (by rw [HIC.out]; exact agg_image) hcIJ.out ?_)
        | (refine wpList_load_agg rfl 33 (.tmp 8) rfl rfl (cs := ta) (by rw [HTA.out]; exact agg_task) hcA.out ?_))
      refine HLA.out.mono ?_
      rintro e wk ⟨vy, rfl, hy, kk⟩
      have HRy := Lib.hid (radm_any vy _ wk hy)
      rw [HCO.out.yes] at HRy
      have HKK := Lib.hid kk
      clear kk hy HLA hcA hcIJ cA fA cB fB
      generalize imgCells vy (setT x k (dedT t n)) = yl at *
      go_wp2_with fail
      refine HRy.out.mono ?_
      rintro e wl ⟨rfl, kl⟩
      have HKL := Lib.hid (HKK.out.then kl)
      have c7 := (HD7.out.keep0 HKL.out).at_ HC2.out
      have HKL0 := Lib.hid (HKJ.out.then HKL.out)
      have hcIL := HCI wl HKL0.out
      have hcBL := Lib.hid (HB4.out.keep0 HKL.out).cellsAt
      have HLBl := HLB wl HKL0.out
      clear kl HRy HLB HB4 HD7 HKK
      by_cases hnd : n = t.cost
      · have z1 : decide (n = t.cost) = true := decide_eq_true hnd
        have z2 : (n == t.cost) = true := by simpa using hnd
        have HAL := HAl wl HKL0.out
        generalize t.cost = dd at *
        clear HCO hnd
        go_wp2_with fail
        refine HAL.out.mono ?_
        rintro e wm ⟨rfl, km⟩
        go_wp2
        go_ret
        exact ⟨rfl, HK0.out.then (HKL0.out.then km)⟩
      · have z1 : decide (n = t.cost) = false := decide_eq_false hnd
        have z2 : (n == t.cost) = false := by simpa using hnd
        have hno2 : admB (setT x k (dedT t (n - 1))) = false := by
          rcases HCO.out.no with h | h
          · exact absurd h hnd
          · exact h
        have HNO := Lib.hid hno2
        generalize t.cost = dd at *
        clear hnd hno2
        go_wp2_with (first
          | (refine wpList_agg_gd rfl 26 (.tmp 2) rfl rfl (cs := il) (by rw [HIC.out]; exact agg_image) hcIL.out ?_)
          | (refine wpList_agg_gd rfl 33 (.tmp 9) rfl rfl (cs := tb) (by rw [HTB.out]; exact agg_task) hcBL.out ?_))
        refine HLBl.out.mono ?_
        rintro e wm ⟨vz, rfl, hy, km⟩
        have HRz := Lib.hid (radm_any vz _ wm hy)
        rw [HNO.out] at HRz
        have HKM := Lib.hid (HKL0.out.then km)
        clear km hy HLBl hcBL hcIL
        generalize imgCells vz (setT x k (dedT t (n - 1))) = zl at *
        go_wp2_with fail
        refine HRz.out.mono ?_
        rintro e wn ⟨rfl, kn⟩
        have HKN := Lib.hid (HKM.out.then kn)
        have HAL := HAl wn HKN.out
        clear kn HRz
        go_wp2_with fail
        refine HAL.out.mono ?_
        rintro e wo ⟨rfl, ko⟩
        go_wp2
        go_ret
        exact ⟨rfl, HK0.out.then (HKN.out.then ko)⟩
end Go.Proofs.YtnnnjcgddmhdmaaGreatDoor
