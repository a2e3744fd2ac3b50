/- SteadyGrows: the law's walk. Condition: the table of math/bits lies where the program's text lays it. -/
import Derived.Test.YtajlkfhekligeaaDoorGrowA
import Derived.Test.YtajlkfhekligeaaDoorResp
namespace Go.Proofs.YtajlkfhekligeaaDoor
open Go.RowKit

set_option maxRecDepth 100000 in
set_option maxHeartbeats 2000000 in
theorem steadyGrows_any (v : ImgV) (x : Img) (s : Nat) (ad : Int) (w : World) (hT : Tab w) (h : ImgAt w v x) (hs : s < 4294967296) :
    Calls Tryd.prog 5 #[.agg (imgCells v x).toArray, .int .u32 (s : Int), .agg #[.int .i64 ad]] w fun e w' => e = .returned (.bool true) ∧ Keep [] w w' := by
  have hb := (img_box w v x).alloc (.cells #[.int .i64 ad] 73)
  have ha := Blk.new1 w (.cells (imgCells v x).toArray 26) 73 #[.int .i64 ad]
  have K0 := ((Keep.refl [] w).alloc (.cells (imgCells v x).toArray 26)).alloc (.cells #[.int .i64 ad] 73)
  obtain ⟨W0, hW0⟩ : ∃ W0, (w.alloc (.cells (imgCells v x).toArray 26)).alloc (.cells #[.int .i64 ad] 73) = W0 := ⟨_, rfl⟩
  rw [hW0] at hb ha K0
  have HW := Lib.hid hW0
  clear hW0
  have HG := Lib.hid (great_any v x _ (h.keep0 K0))
  have HR := fun W hk => Lib.hid (right_any v x W (h.keep0 hk))
  have HIL : Hid ((imgCells v x).length = 4) := show _ = _ from rfl
  have hc : Hid (∀ W, Keep [] W0 W → CellsAt W w.heap.size 0 (imgCells v x) ∧ W.cell? ⟨w.heap.size, 1, none⟩ = some (.slice v.ta x.tasks.length v.tc) ∧ W.cell? ⟨w.heap.size + 1, 0, none⟩ = some (.int .i64 ad)) := fun W hk => ⟨(hb.keep0 hk).cellsAt, img_c1 (hb.keep0 hk), (ha.keep0 hk).cell 0⟩
  have HAl := fun W hk => Lib.hid (alive18 W (hT.keep0 hk))
  cases hg : greatImg x with
  | true =>
    rw [hg] at HG
    clear h hb ha HR HAl
    generalize imgCells v x = il at *
    go_enter Tryd.func5, Tryd.ntmps5
    go_wp2_with (first
      | rw [HW.out]
      | (refine wpList_load_agg rfl 26 (.tmp 3) rfl rfl (cs := il) (by rw [HIL.out]; exact agg_image) (hc.out _ (Keep.refl _ _)).1 ?_))
    refine HG.out.mono ?_
    rintro e w1 ⟨rfl, k1⟩
    go_wp2
    go_ret
    exact ⟨rfl, K0.then k1⟩
  | false =>
    rw [hg] at HG
    cases hr : ((chkImg x).2 == 0) with
    | false =>
      rw [hr] at HR
      clear h hb ha HAl
      generalize imgCells v x = il at *
      go_enter Tryd.func5, Tryd.ntmps5
      go_wp2_with (first
        | rw [HW.out]
        | (refine wpList_load_agg rfl 26 (.tmp 3) rfl rfl (cs := il) (by rw [HIL.out]; exact agg_image) (hc.out _ (Keep.refl _ _)).1 ?_))
      refine HG.out.mono ?_
      rintro e w1 ⟨rfl, k1⟩
      have k1' := Lib.hid k1
      clear k1
      go_wp2_with (refine wpList_agg_gd rfl 26 (.tmp 3) rfl rfl (cs := il) (by rw [HIL.out]; exact agg_image) (hc.out _ k1'.out).1 ?_)
      refine (HR _ (K0.then k1'.out)).out.mono ?_
      rintro e w2 ⟨rfl, k2⟩
      go_wp2
      go_ret
      exact ⟨rfl, (K0.then k1'.out).then k2⟩
    | true =>
      have h0 : (chkImg x).2 = 0 := by simpa using hr
      have hsm := small_of h0
      have hpos := pos_of h0
      have hn16 := hsm.n
      have HI := Lib.hid h
      have HSm := Lib.hid hsm
      have HTb := Lib.hid hT
      have HP := Lib.hid hpos
      have HN := Lib.hid hn16
      have HWi := fun W => Lib.hid (within_any v x s W hs hsm.n)
      rw [hr] at HR
      have HILE : Hid (imgCells v x = [.int .i64 x.res, .slice v.ta x.tasks.length v.tc, .slice v.ma x.modes.length v.mc, .slice v.ea x.edges.length v.ec]) := show _ = _ from rfl
      have HIO : Hid (∀ u ∈ imgCells v x, u.oneCell' = true) := show ∀ _, _ from fun u hu => by
        simp [imgCells] at hu
        rcases hu with rfl | rfl | rfl | rfl <;> rfl
      have K0' := Lib.hid K0
      have HC00 := fun (s : Nat) W hT hI hs => Lib.hid (ceilOf_any v x s W hT hI hs)
      have HR00 := fun (s hold : Nat) (T : List Int) (t : Int) W hT hI hs hh hT8 hx => Lib.hid (resp_any v x s hold T t W hT hI hs hh hT8 hx)
      clear h0 hr h hb ha hsm hpos hn16 hT K0
      generalize imgCells v x = il at *
      have HA : Hid (withinK s x.tasks.length < 4294967296) := show _ < _ from withinK_lt s x.tasks.length (by have := HN.out; omega)
      generalize withinK s x.tasks.length = a at *
      go_enter Tryd.func5, Tryd.ntmps5
      go_wp2_with (first
        | rw [HW.out]
        | (refine wpList_load_agg rfl 26 (.tmp 3) rfl rfl (cs := il) (by rw [HIL.out]; exact agg_image) (hc.out _ (Keep.refl _ _)).1 ?_))
      refine HG.out.mono ?_
      rintro e w1 ⟨rfl, k1⟩
      have k1' := Lib.hid k1
      clear k1
      go_wp2_with (refine wpList_agg_gd rfl 26 (.tmp 3) rfl rfl (cs := il) (by rw [HIL.out]; exact agg_image) (hc.out _ k1'.out).1 ?_)
      refine (HR _ (K0'.out.then k1'.out)).out.mono ?_
      rintro e w2 ⟨rfl, k2⟩
      have k2' := Lib.hid (k1'.out.then k2)
      clear k2
      go_wp2_with (refine wpList_load_agg rfl 26 (.tmp 3) rfl rfl (cs := il) (by rw [HIL.out]; exact agg_image) (hc.out _ k2'.out).1 ?_)
      refine (HWi _).out.mono ?_
      rintro e w3 ⟨rfl, k3⟩
      have k3' := Lib.hid (k2'.out.then k3)
      clear k3
      go_wp2_with (first
        | (refine wpList_load_agg rfl 26 (.tmp 3) rfl rfl (cs := il) (by rw [HIL.out]; exact agg_image) (hc.out _ k3'.out).1 ?_)
        | (refine stop_store 26 (.tmp 7) (.tmp 26) rfl ?_))
      constructor
      refine wpList_store_all rfl 26 (.tmp 7) (.tmp 26) rfl (vs := il) rfl rfl (by rw [HIL.out]; kernel_rfl) (Blk.new _ _ _) HIO.out (by rw [HIL.out]; rfl) ?_
      intro w4 d4 k4
      have kk4 := (k3'.out.alloc (.cells #[.int .i64 0, .slice none 0 0, .slice none 0 0, .slice none 0 0] 26)).trans k4 (fun y hy hlt => by simp at hy; have := k3'.out.size; omega)
      have k4' := Lib.hid kk4
      have K4 := Lib.hid (K0'.out.then kk4)
      have hz3 := k3'.out.size
      rw [HILE.out] at d4
      obtain ⟨g7, hg7⟩ : ∃ g7, w3.heap.size = g7 := ⟨_, rfl⟩
      simp only [hg7] at *
      have hg7W : W0.heap.size ≤ g7 := hz3
      clear kk4 k4 hg7 hz3
      go_wp2_with (refine stop_at 29 rfl ?_)
      constructor
      have kk5 : Keep [] W0 (w4.alloc (.cells #[] 39)) := k4'.out.alloc _
      have K5 : Keep [] w (w4.alloc (.cells #[] 39)) := K4.out.alloc _
      have oE := own_empty w4 39 11
      have D5 : Blk (w4.alloc (.cells #[] 39)) g7 26 _ := d4.alloc _
      have hz4 : (w4.alloc (.cells #[] 39)).heap.size = w4.heap.size + 1 := by simp
      have hz4' := k4'.out.size
      have hg74 : g7 < w4.heap.size := d4.lt
      obtain ⟨B, hB⟩ : ∃ B, w4.heap.size = B := ⟨_, rfl⟩
      rw [hB] at oE hz4 hz4' hg74
      generalize w4.alloc (.cells #[] 39) = w5 at *
      rw [hB]
      clear hB d4 k4' K4
      have c1 := (hc.out _ kk5).2.1
      have hn16 := HN.out
      go_wp2_with (refine stop_at 30 rfl ?_)
      constructor
      refine wpList_append_reads rfl (.tmp 27) (.tmp 29) 22 rfl slice_task18 oE rfl (HI.out.tasks.keep0 K5) rfl (tasks_one x.tasks) (by omega) (by omega) (by unfold maxLen; omega) ?_
      intro v6 w6 o6 k6 hob
      rw [Nat.zero_add, List.nil_append] at o6
      have k6 : Keep [B] w5 w6 := k6
      obtain ⟨g, tc, hv6, hBg, hgl⟩ := o6.form (by have := HP.out; omega)
      subst hv6
      have D6 : Blk w6 g7 26 _ := D5.keep k6 (by simp; omega)
      have gne : g7 ≠ g := fun e => own_blk_ne o6 D6 (by decide) (by rw [e]; rfl)
      have D7 := D6.set_ 1 (.slice (some ⟨g, 0, none⟩) x.tasks.length tc)
      have o7 := own_keep o6 (keep_set w6 g7 1 (.slice (some ⟨g, 0, none⟩) x.tasks.length tc)) (fun y hy hm => by simp [Value.ownBlock] at hy hm; omega)
      have kk7 : Keep [] W0 (w6.setCell ⟨g7, 1, none⟩ (.slice (some ⟨g, 0, none⟩) x.tasks.length tc)) := (kk5.trans k6 (fun y hy hlt => by simp at hy; omega)).setCell (fun h => by simp at h; omega) _
      simp at D7
      have K7 := K0'.out.then kk7
      have e1 := D6.cell 1
      have f1 := D6.frozen 1
      have c6 := (hc.out _ (kk5.trans k6 (fun y hy hlt => by simp at hy; omega))).2.1
      go_wp2_with (refine stop_store 22 (.tmp 31) (.tmp 30) rfl ?_)
      constructor
      refine wpList_store1 rfl 22 (.tmp 31) (.tmp 30) rfl (v := .slice (some ⟨g, 0, none⟩) x.tasks.length tc) rfl rfl (by kernel_rfl) rfl rfl e1 f1 ?_
      generalize w6.setCell ⟨g7, 1, none⟩ (.slice (some ⟨g, 0, none⟩) x.tasks.length tc) = w7 at *
      have c1 := (hc.out _ kk7).2.1
      have ca := (hc.out _ kk7).2.2
      have hp := HP.out
      clear e1 f1 c6 D6 D5 o6 hob kk5 k6 oE K5
      go_wp2_with fail
      have hF : ∀ w', Keep [] w7 w' → w'.cell? ⟨w.heap.size, 1, none⟩ = some (.slice v.ta x.tasks.length v.tc) ∧ w'.cell? ⟨w.heap.size + 1, 0, none⟩ = some (.int .i64 ad) := fun w' hw => ⟨(hc.out _ (kk7.then hw)).2.1, (hc.out _ (kk7.then hw)).2.2⟩
      have hnil : ¬ x.tasks = [] := fun e => by rw [e] at hp; simp at hp
      obtain ⟨r1, hr1⟩ : ∃ r1, ad.tmod (x.tasks.length : Int) = r1 := ⟨_, rfl⟩
      have hr1b : -(x.tasks.length : Int) < r1 ∧ r1 < (x.tasks.length : Int) := by
        rw [← hr1]
        exact ⟨by have := Int.lt_tmod_of_pos ad (b := (x.tasks.length : Int)) (by omega); omega, Int.tmod_lt_of_pos ad (by omega)⟩
      obtain ⟨k, hk1, hk2⟩ : ∃ k : Nat, (r1 + x.tasks.length).tmod (x.tasks.length : Int) = (k : Int) ∧ k < x.tasks.length := by
        have h1 := Int.tmod_nonneg (x.tasks.length : Int) (show 0 ≤ r1 + x.tasks.length by omega)
        have h2 := Int.tmod_lt_of_pos (r1 + x.tasks.length) (show (0 : Int) < (x.tasks.length : Int) by omega)
        exact ⟨((r1 + x.tasks.length).tmod (x.tasks.length : Int)).toNat, by omega, by omega⟩
      refine ap_begin 14 (Keep [] w7) rfl (Keep.refl _ _).drew (fun hS hPan => ?_) (fun _ _ d _ _ h => by cases d <;> exact h)
      (refine ap_val (v := ?_) 0 rfl (by kernel_rfl) (by kernel_rfl) (by kernel_rfl) (by kernel_rfl) (by rfl) hPan ?_ hS ?_; rotate_left; (intro w' hSw; obtain ⟨f1,f2⟩ := hF w' hSw; go_simp; try with_reducible rfl); simp only [Act.put, List.setIfInBounds_toArray, List.set_cons_zero, List.set_cons_succ])
      (refine ap_val (v := ?_) 1 rfl (by kernel_rfl) (by kernel_rfl) (by kernel_rfl) (by kernel_rfl) (by rfl) hPan ?_ hS ?_; rotate_left; (intro w' hSw; obtain ⟨f1,f2⟩ := hF w' hSw; go_simp; try with_reducible rfl); simp only [Act.put, List.setIfInBounds_toArray, List.set_cons_zero, List.set_cons_succ])
      (refine ap_val (v := ?_) 2 rfl (by kernel_rfl) (by kernel_rfl) (by kernel_rfl) (by kernel_rfl) (by rfl) hPan ?_ hS ?_; rotate_left; (intro w' hSw; obtain ⟨f1,f2⟩ := hF w' hSw; go_simp; try with_reducible rfl); simp only [Act.put, List.setIfInBounds_toArray, List.set_cons_zero, List.set_cons_succ])
      (refine ap_val (v := ?_) 3 rfl (by kernel_rfl) (by kernel_rfl) (by kernel_rfl) (by kernel_rfl) (by rfl) hPan ?_ hS ?_; rotate_left; (intro w' hSw; obtain ⟨f1,f2⟩ := hF w' hSw; go_simp; try with_reducible rfl); simp only [Act.put, List.setIfInBounds_toArray, List.set_cons_zero, List.set_cons_succ])
      (refine ap_val (v := ?_) 4 rfl (by kernel_rfl) (by kernel_rfl) (by kernel_rfl) (by kernel_rfl) (by rfl) hPan ?_ hS ?_; rotate_left; (intro w' hSw; obtain ⟨f1,f2⟩ := hF w' hSw; go_simp; try with_reducible rfl); simp only [Act.put, List.setIfInBounds_toArray, List.set_cons_zero, List.set_cons_succ])
      (refine ap_val (v := ?_) 5 rfl (by kernel_rfl) (by kernel_rfl) (by kernel_rfl) (by kernel_rfl) (by rfl) hPan ?_ hS ?_; rotate_left; (intro w' hSw; obtain ⟨f1,f2⟩ := hF w' hSw; go_simp; try with_reducible rfl); simp only [Act.put, List.setIfInBounds_toArray, List.set_cons_zero, List.set_cons_succ])
      (refine ap_val (v := ?_) 6 rfl (by kernel_rfl) (by kernel_rfl) (by kernel_rfl) (by kernel_rfl) (by rfl) hPan ?_ hS ?_; rotate_left; (intro w' hSw; obtain ⟨f1,f2⟩ := hF w' hSw; go_simp; try with_reducible rfl); simp only [Act.put, List.setIfInBounds_toArray, List.set_cons_zero, List.set_cons_succ])
      (refine ap_val (v := ?_) 7 rfl (by kernel_rfl) (by kernel_rfl) (by kernel_rfl) (by kernel_rfl) (by rfl) hPan ?_ hS ?_; rotate_left; (intro w' hSw; obtain ⟨f1,f2⟩ := hF w' hSw; go_simp; try with_reducible rfl); simp only [Act.put, List.setIfInBounds_toArray, List.set_cons_zero, List.set_cons_succ])
      (refine ap_val (v := ?_) 8 rfl (by kernel_rfl) (by kernel_rfl) (by kernel_rfl) (by kernel_rfl) (by rfl) hPan ?_ hS ?_; rotate_left; (intro w' hSw; obtain ⟨f1,f2⟩ := hF w' hSw; go_simp; try with_reducible rfl); simp only [Act.put, List.setIfInBounds_toArray, List.set_cons_zero, List.set_cons_succ])
      have hwr : IntKind.i64.wrap (r1 + x.tasks.length) = r1 + x.tasks.length := IntWalk.i64_in _ (by omega)
      (refine ap_val (v := ?_) 9 rfl (by kernel_rfl) (by kernel_rfl) (by kernel_rfl) (by kernel_rfl) (by rfl) hPan ?_ hS ?_; rotate_left; (intro w' hSw; obtain ⟨f1,f2⟩ := hF w' hSw; go_simp; try with_reducible rfl); simp only [Act.put, List.setIfInBounds_toArray, List.set_cons_zero, List.set_cons_succ])
      clear hwr
      (refine ap_val (v := ?_) 10 rfl (by kernel_rfl) (by kernel_rfl) (by kernel_rfl) (by kernel_rfl) (by rfl) hPan ?_ hS ?_; rotate_left; (intro w' hSw; obtain ⟨f1,f2⟩ := hF w' hSw; go_simp; try with_reducible rfl); simp only [Act.put, List.setIfInBounds_toArray, List.set_cons_zero, List.set_cons_succ])
      (refine ap_val (v := ?_) 11 rfl (by kernel_rfl) (by kernel_rfl) (by kernel_rfl) (by kernel_rfl) (by rfl) hPan ?_ hS ?_; rotate_left; (intro w' hSw; obtain ⟨f1,f2⟩ := hF w' hSw; go_simp; try with_reducible rfl); simp only [Act.put, List.setIfInBounds_toArray, List.set_cons_zero, List.set_cons_succ])
      (refine ap_val (v := ?_) 12 rfl (by kernel_rfl) (by kernel_rfl) (by kernel_rfl) (by kernel_rfl) (by rfl) hPan ?_ hS ?_; rotate_left; (intro w' hSw; obtain ⟨f1,f2⟩ := hF w' hSw; go_simp; try with_reducible rfl); simp only [Act.put, List.setIfInBounds_toArray, List.set_cons_zero, List.set_cons_succ])
      (refine ap_val (v := ?_) 13 rfl (by kernel_rfl) (by kernel_rfl) (by kernel_rfl) (by kernel_rfl) (by rfl) hPan ?_ hS ?_; rotate_left; (intro w' hSw; obtain ⟨f1,f2⟩ := hF w' hSw; go_simp; try with_reducible rfl); simp only [Act.put, List.setIfInBounds_toArray, List.set_cons_zero, List.set_cons_succ])
      refine ap_one 14 (by kernel_rfl) ?_
      refine op_run (v := .int .i64 (k : Int)) (w' := w7.drew) 14 rfl (by rfl) (by go_simp) ?_
      refine ⟨fun _ => hS, ap_done (by kernel_rfl) ?_ _⟩
      (simp only [Act.put, List.setIfInBounds_toArray, List.set_cons_zero, List.set_cons_succ])
      have h8 := HI.out.ok.lon
      have htk : x.tasks[k]'hk2 = x.tasks[k]'hk2 := rfl
      have hcb := HSm.out.cost _ (List.getElem_mem hk2)
      have hdb := HSm.out.ded _ (List.getElem_mem hk2)
      have eC := (flat_at x.tasks (fun t ht => tskCells_len (h8 t ht)) k 2 hk2 (by decide))
      have eD := (flat_at x.tasks (fun t ht => tskCells_len (h8 t ht)) k 1 hk2 (by decide))
      have O8 := own_keep0 o7 hS
      have E8 : Blk w7.drew g7 26 _ := D7.keep0 hS
      have kk8 := kk7.then hS
      rw [show (tskCells (x.tasks[k]'hk2))[2]? = some (.int .i64 (x.tasks[k]'hk2).cost) from rfl] at eC
      rw [show (tskCells (x.tasks[k]'hk2))[1]? = some (.int .i64 (x.tasks[k]'hk2).ded) from rfl] at eD
      have HGY := Lib.hid (grownT_yes hk2 h8)
      have HGN := Lib.hid (grownT_no (l := x.tasks) hk2)
      clear hS hPan hF D7 o7 htk h8
      generalize w7.drew = w8 at *
      have hF : ∀ w', Keep [] w8 w' → w'.cell? ⟨g7, 1, none⟩ = some (.slice (some ⟨g, 0, none⟩) x.tasks.length tc) ∧ w'.cell? ⟨g, k * 11 + 1, none⟩ = some (.int .i64 (x.tasks[k]'hk2).ded) ∧ w'.cell? ⟨g, k * 11 + 2, none⟩ = some (.int .i64 (x.tasks[k]'hk2).cost) := fun w' hw =>
        ⟨(E8.keep0 hw).cell 1, ((own_keep0 O8 hw).cellAt _ (by omega)).trans eD, ((own_keep0 O8 hw).cellAt _ (by omega)).trans eC⟩
      have HKN := Lib.hid hk2
      generalize (x.tasks[k]'hk2).cost = tco at *
      generalize (x.tasks[k]'hk2).ded = tde at *
      have p0 : (0 : Int) ≤ (k : Int) := by omega
      have p1 : (k : Int) < (x.tasks.length : Int) := by omega
      go_wp2_with fail
      rcases Int.lt_or_le tco tde with hcd | hcd
      all_goals
        refine ap_begin 12 (Keep [] w8) rfl (Keep.refl _ _).drew (fun hS hPan => ?_) (fun _ _ d _ _ h => by cases d <;> exact h)
        (refine ap_val (v := ?_) 0 rfl (by kernel_rfl) (by kernel_rfl) (by kernel_rfl) (by kernel_rfl) (by rfl) hPan ?_ hS ?_; rotate_left; (intro w' hSw; obtain ⟨f1,f2,f3⟩ := hF w' hSw; go_simp; try with_reducible rfl); simp only [Act.put, List.setIfInBounds_toArray, List.set_cons_zero, List.set_cons_succ])
        (refine ap_val (v := ?_) 1 rfl (by kernel_rfl) (by kernel_rfl) (by kernel_rfl) (by kernel_rfl) (by rfl) hPan ?_ hS ?_; rotate_left; (intro w' hSw; obtain ⟨f1,f2,f3⟩ := hF w' hSw; go_simp; try with_reducible rfl); simp only [Act.put, List.setIfInBounds_toArray, List.set_cons_zero, List.set_cons_succ])
        (refine ap_val (v := ?_) 2 rfl (by kernel_rfl) (by kernel_rfl) (by kernel_rfl) (by kernel_rfl) (by rfl) hPan ?_ hS ?_; rotate_left; (intro w' hSw; obtain ⟨f1,f2,f3⟩ := hF w' hSw; go_simp; try with_reducible rfl); simp only [Act.put, List.setIfInBounds_toArray, List.set_cons_zero, List.set_cons_succ])
        (refine ap_val (v := ?_) 3 rfl (by kernel_rfl) (by kernel_rfl) (by kernel_rfl) (by kernel_rfl) (by rfl) hPan ?_ hS ?_; rotate_left; (intro w' hSw; obtain ⟨f1,f2,f3⟩ := hF w' hSw; go_simp; try with_reducible rfl); simp only [Act.put, List.setIfInBounds_toArray, List.set_cons_zero, List.set_cons_succ])
        (refine ap_val (v := ?_) 4 rfl (by kernel_rfl) (by kernel_rfl) (by kernel_rfl) (by kernel_rfl) (by rfl) hPan ?_ hS ?_; rotate_left; (intro w' hSw; obtain ⟨f1,f2,f3⟩ := hF w' hSw; go_simp; try with_reducible rfl); simp only [Act.put, List.setIfInBounds_toArray, List.set_cons_zero, List.set_cons_succ])
        (refine ap_val (v := ?_) 5 rfl (by kernel_rfl) (by kernel_rfl) (by kernel_rfl) (by kernel_rfl) (by rfl) hPan ?_ hS ?_; rotate_left; (intro w' hSw; obtain ⟨f1,f2,f3⟩ := hF w' hSw; go_simp; try with_reducible rfl); simp only [Act.put, List.setIfInBounds_toArray, List.set_cons_zero, List.set_cons_succ])
        (refine ap_val (v := ?_) 6 rfl (by kernel_rfl) (by kernel_rfl) (by kernel_rfl) (by kernel_rfl) (by rfl) hPan ?_ hS ?_; rotate_left; (intro w' hSw; obtain ⟨f1,f2,f3⟩ := hF w' hSw; go_simp; try with_reducible rfl); simp only [Act.put, List.setIfInBounds_toArray, List.set_cons_zero, List.set_cons_succ])
        (refine ap_val (v := ?_) 7 rfl (by kernel_rfl) (by kernel_rfl) (by kernel_rfl) (by kernel_rfl) (by rfl) hPan ?_ hS ?_; rotate_left; (intro w' hSw; obtain ⟨f1,f2,f3⟩ := hF w' hSw; go_simp; try with_reducible rfl); simp only [Act.put, List.setIfInBounds_toArray, List.set_cons_zero, List.set_cons_succ])
        (refine ap_val (v := ?_) 8 rfl (by kernel_rfl) (by kernel_rfl) (by kernel_rfl) (by kernel_rfl) (by rfl) hPan ?_ hS ?_; rotate_left; (intro w' hSw; obtain ⟨f1,f2,f3⟩ := hF w' hSw; go_simp; try with_reducible rfl); simp only [Act.put, List.setIfInBounds_toArray, List.set_cons_zero, List.set_cons_succ])
        (refine ap_val (v := ?_) 9 rfl (by kernel_rfl) (by kernel_rfl) (by kernel_rfl) (by kernel_rfl) (by rfl) hPan ?_ hS ?_; rotate_left; (intro w' hSw; obtain ⟨f1,f2,f3⟩ := hF w' hSw; go_simp; try with_reducible rfl); simp only [Act.put, List.setIfInBounds_toArray, List.set_cons_zero, List.set_cons_succ])
        (refine ap_val (v := ?_) 10 rfl (by kernel_rfl) (by kernel_rfl) (by kernel_rfl) (by kernel_rfl) (by rfl) hPan ?_ hS ?_; rotate_left; (intro w' hSw; obtain ⟨f1,f2,f3⟩ := hF w' hSw; go_simp; try with_reducible rfl); simp only [Act.put, List.setIfInBounds_toArray, List.set_cons_zero, List.set_cons_succ])
        (refine ap_val (v := ?_) 11 rfl (by kernel_rfl) (by kernel_rfl) (by kernel_rfl) (by kernel_rfl) (by rfl) hPan ?_ hS ?_; rotate_left; (intro w' hSw; obtain ⟨f1,f2,f3⟩ := hF w' hSw; go_simp; try with_reducible rfl); simp only [Act.put, List.setIfInBounds_toArray, List.set_cons_zero, List.set_cons_succ])
        refine ap_one 12 (by kernel_rfl) ?_
        refine op_run (v := .bool (decide (tco < tde))) (w' := w8.drew) 12 rfl (by rfl) (by go_simp) ?_
        refine ⟨fun _ => hS, ap_done (by kernel_rfl) ?_ _⟩
        (simp only [Act.put, List.setIfInBounds_toArray, List.set_cons_zero, List.set_cons_succ])
        first
          | rw [show decide (tco < tde) = true from decide_eq_true hcd]
          | rw [show decide (tco < tde) = false from decide_eq_false (Int.not_lt.2 hcd)]
        have O9 := own_keep0 O8 hS
        have E9 : Blk w8.drew g7 26 _ := E8.keep0 hS
        have kk9 := kk8.then hS
        have f1 := (hF _ hS).1
        have f3 := (hF _ hS).2.2
        have z3 := O9.frozenAt (k * 11 + 2)
        clear hS hPan
        generalize w8.drew = w9 at *
        have HAL := HGY.out
        first
          | (have h0 : Hid (tco < tde) := hcd
             have hwr : IntKind.i64.wrap (tco + 1) = tco + 1 := IntWalk.i64_in _ (by omega)
             have hst := (O9.stored (k * 11 + 2) (.int .i64 (tco + 1))).1
             rw [← HAL h0.out] at hst
             have E10 : Blk (w9.setCell ⟨g, k * 11 + 2, none⟩ (.int .i64 (tco + 1))) g7 26 _ := E9.far (p := ⟨g, k * 11 + 2, none⟩) gne _
             have kk10 : Keep [] W0 (w9.setCell ⟨g, k * 11 + 2, none⟩ (.int .i64 (tco + 1))) := kk9.setCell (fun h => by simp at h; omega) _
             go_wp2_with (refine stop_store 3 (.tmp 67) (.tmp 65) rfl ?_)
             constructor
             refine wpList_store1 rfl 3 (.tmp 67) (.tmp 65) rfl (v := .int .i64 (tco + 1)) rfl rfl (by kernel_rfl) rfl rfl f3 z3 ?_
             clear hwr
             generalize w9.setCell ⟨g, k * 11 + 2, none⟩ (.int .i64 (tco + 1)) = w10 at *)
          | (have hst : w9.ownsRow B 39 11 (.slice (some ⟨g, 0, none⟩) x.tasks.length tc) x.tasks.length ((grownT x.tasks k).flatMap tskCells) := by rw [HGN.out hcd]; exact O9
             have E10 := E9
             have kk10 := kk9
             generalize w9 = w10 at *)
        clear O9 E9 kk9 f1 f3 z3 O8 E8 kk8 HAL
        go_wp2_with fail
        have hWi := with_any a (k : Int) w10 HA.out
        have hbl := bitN_lt (k : Int)
        have HM : Hid (a ||| bitN (k : Int) < 4294967296) := show _ < _ from Nat.or_lt_two_pow (n := 32) HA.out hbl
        have HSub : Hid (∀ i, a.testBit i = true → (a ||| bitN (k : Int)).testBit i = true) := show ∀ _, _ from fun i hi => by rw [Nat.testBit_or, hi, Bool.true_or]
        have K10 := K0'.out.then kk10
        have hy := grown_at HI.out K10 k B (some ⟨g, 0, none⟩) tc hst
        have hyc := grown_cells v x k (some ⟨g, 0, none⟩) tc
        have E10' : Blk w10 g7 26 (imgCells ⟨some ⟨g, 0, none⟩, tc, v.ma, v.mc, v.ea, v.ec, v.qa⟩ (grown x k)).toArray := by rw [hyc]; exact E10
        have HCY := fun W (hk : Keep [] w10 W) => Lib.hid ((E10'.keep0 hk).cellsAt)
        have HCI0 : Hid (∀ W, Keep [] w10 W → CellsAt W w.heap.size 0 il ∧ W.cell? ⟨w.heap.size, 1, none⟩ = some (.slice v.ta x.tasks.length v.tc)) := show ∀ _, _ from fun W hk => ⟨(hc.out _ (kk10.then hk)).1, (hc.out _ (kk10.then hk)).2.1⟩
        have HY2 : Hid ((imgCells ⟨some ⟨g, 0, none⟩, tc, v.ma, v.mc, v.ea, v.ec, v.qa⟩ (grown x k)).length = 4) := show _ = _ by rw [hyc]; rfl
        have HGr := Lib.hid (fun i (hi : i < x.tasks.length) => grows HSm.out k HA.out HM.out HSub.out i hi)
        have HSy := grown_small HSm.out k
        generalize a ||| bitN (k : Int) = m at *
        have HCx := fun W (hk : Keep [] w10 W) => HC00 a W (HTb.out.keep0 (K10.then hk)) (HI.out.keep0 (K10.then hk)) HA.out
        have HCy := fun W (hk : Keep [] w10 W) => Lib.hid (ceilOf_any _ _ m W (HTb.out.keep0 (K10.then hk)) (hy.keep0 hk) HM.out)
        have HRx0 := fun (t : Int) W (hk : Keep [] w10 W) => HR00 a a (ceilOf x.tasks a) t W (HTb.out.keep0 (K10.then hk)) (HI.out.keep0 (K10.then hk)) HA.out HA.out (ceilIn_len _ _) HSm.out
        have HRy0 := fun (t : Int) W (hk : Keep [] w10 W) => Lib.hid (resp_any _ _ m m (ceilOf (grown x k).tasks m) t W (HTb.out.keep0 (K10.then hk)) (hy.keep0 hk) HM.out HM.out (ceilIn_len _ _) HSy)
        have HTL : Hid ((iv (ceilOf (grown x k).tasks m)).length = 8) := show _ = _ by rw [iv_len]; exact ceilIn_len _ _
        have HTO := Lib.hid (iv_one (ceilOf (grown x k).tasks m))
        have HK10 := Lib.hid K10
        clear HC00 HR00 hbl K10 hy hyc E10 E10' kk10 hst HSy HGY HGN eC eD hF
        generalize (ceilOf (grown x k).tasks m) = T2 at *
        generalize (ceilOf x.tasks a) = T1 at *
        generalize (grown x k) = y at *
        rw [show imgCells ⟨some ⟨g, 0, none⟩, tc, v.ma, v.mc, v.ea, v.ec, v.qa⟩ y = imgCells ⟨some ⟨g, 0, none⟩, tc, v.ma, v.mc, v.ea, v.ec, v.qa⟩ y from rfl] at HY2
        generalize imgCells ⟨some ⟨g, 0, none⟩, tc, v.ma, v.mc, v.ea, v.ec, v.qa⟩ y = yl at *
        generalize iv T1 = tv1 at *
        generalize iv T2 = tv at *
        refine hWi.mono ?_
        rintro e w11 ⟨rfl, rfl⟩
        go_wp2_with (refine wpList_load_agg rfl 26 (.tmp 7) rfl rfl (cs := yl) (by rw [HY2.out]; exact agg_image) (HCY _ (Keep.refl _ _)).out ?_)
        refine (HCy _ (Keep.refl _ _)).out.mono ?_
        rintro e w12 ⟨rfl, k12⟩
        have k12' := Lib.hid k12
        clear k12
        go_wp2_with (refine stop_store 75 (.tmp 10) (.tmp 73) rfl ?_)
        constructor
        refine wpList_store_all rfl 75 (.tmp 10) (.tmp 73) rfl (vs := tv) rfl rfl (by rw [HTL.out]; kernel_rfl) (Blk.new _ _ _) HTO.out (by rw [HTL.out]; rfl) ?_
        intro w13 d13 k13
        have kk13 := (k12'.out.alloc (.cells (List.replicate 8 (.int .i64 0)).toArray 75)).trans k13 (fun y hy hlt => by simp at hy; have := k12'.out.size; omega)
        have K13 := Lib.hid kk13
        have HD13 := Lib.hid d13
        clear k13 kk13 d13 k12'
        obtain ⟨g10, hg10⟩ : ∃ g10, w12.heap.size = g10 := ⟨_, rfl⟩
        simp only [hg10] at *
        clear hg10
        go_wp2
        go_loopw [11] (fun i wr => ∃ j : Nat, j ≤ x.tasks.length ∧ i = .int .i64 j ∧ Keep [] w13 wr) (fun i _ => x.tasks.length - (intOf i).toNat)
        case atStart => exact ⟨0, Nat.zero_le _, rfl, Keep.refl _ _⟩
        case round =>
          obtain ⟨j, hj, rfl, hK⟩ := hrel
          have HK := Lib.hid hK
          have HKr := Lib.hid (K13.out.then hK)
          have c1 := (HCI0.out _ HKr.out).2
          have hn16 := HN.out
          clear hK
          by_cases hlt : j < x.tasks.length
          · have hgr := HGr.out j hlt
            have HRx := HRx0 (j : Int)
            have HRy := HRy0 (j : Int)
            generalize respM x a a T1 (j : Int) = r1 at *
            generalize respM y m m T2 (j : Int) = r2 at *
            obtain ⟨⟨a1, b1, c1'⟩, ok1⟩ := r1
            obtain ⟨⟨a2, b2, c2'⟩, ok2⟩ := r2
            unfold respRes rowCells at HRx HRy
            dsimp only at HRx HRy hgr
            have HGR := Lib.hid hgr
            clear hgr HRx0 HRy0 HGr
            have HCI : Hid (∀ W, Keep [] wr W → CellsAt W w.heap.size 0 il) := show ∀ _, _ from fun W hk => (HCI0.out _ (HKr.out.then hk)).1
            go_wp2_with fail
            refine ap_begin 13 (Keep [] wr) rfl (Keep.refl _ _).drew (fun hS hPan => ?_) (fun _ _ d _ _ h => by cases d <;> exact h)
            obtain ⟨w14, hw14⟩ : ∃ w14, wr.drew = w14 := ⟨_, rfl⟩
            rw [hw14] at hS ⊢
            clear hw14
            refine ap_agg 0 26 (.tmp 3) il rfl (by kernel_rfl) (by kernel_rfl) (by kernel_rfl) (by kernel_rfl) (by rfl) hPan rfl rfl (by rw [HIL.out]; exact agg_image) HCI.out hS ?_
            (simp only [Act.put, List.setIfInBounds_toArray, List.set_cons_zero, List.set_cons_succ])
            (refine ap_val (v := ?_) 1 rfl (by kernel_rfl) (by kernel_rfl) (by kernel_rfl) (by kernel_rfl) (by rfl) hPan ?_ hS ?_; rotate_left; (intro w' hSw; go_simp; try with_reducible rfl); simp only [Act.put, List.setIfInBounds_toArray, List.set_cons_zero, List.set_cons_succ])
            (refine ap_val (v := ?_) 2 rfl (by kernel_rfl) (by kernel_rfl) (by kernel_rfl) (by kernel_rfl) (by rfl) hPan ?_ hS ?_; rotate_left; (intro w' hSw; go_simp; try with_reducible rfl); simp only [Act.put, List.setIfInBounds_toArray, List.set_cons_zero, List.set_cons_succ])
            refine ap_agg 3 26 (.tmp 3) il rfl (by kernel_rfl) (by kernel_rfl) (by kernel_rfl) (by kernel_rfl) (by rfl) hPan rfl rfl (by rw [HIL.out]; exact agg_image) HCI.out hS ?_
            (simp only [Act.put, List.setIfInBounds_toArray, List.set_cons_zero, List.set_cons_succ])
            (refine ap_val (v := ?_) 4 rfl (by kernel_rfl) (by kernel_rfl) (by kernel_rfl) (by kernel_rfl) (by rfl) hPan ?_ hS ?_; rotate_left; (intro w' hSw; go_simp; try with_reducible rfl); simp only [Act.put, List.setIfInBounds_toArray, List.set_cons_zero, List.set_cons_succ])
            (refine ap_val (v := ?_) 6 rfl (by kernel_rfl) (by kernel_rfl) (by kernel_rfl) (by kernel_rfl) (by rfl) hPan ?_ hS ?_; rotate_left; (intro w' hSw; go_simp; try with_reducible rfl); simp only [Act.put, List.setIfInBounds_toArray, List.set_cons_zero, List.set_cons_succ])
            refine ap_two 5 11 (by kernel_rfl) ?_ ?_
            refine op_call (f := 28) (vs := #[.agg il.toArray, .int .u32 (a : Int)]) 5 rfl (by rfl) rfl (by simp only [List.map_toArray, List.map_cons, List.map_nil]; rfl) Tryd.func28 (by kernel_rfl) (by kernel_rfl) (HCx _ (HKr.out.then hS)).out ?_
            rintro e w15 ⟨rfl, k5⟩
            have hS' := hS.then k5
            refine ⟨_, rfl, fun _ => hS', ?_⟩
            clear k5 hS
            have hS := hS'
            clear hS'
            (simp only [Act.put, List.setIfInBounds_toArray, List.set_cons_zero, List.set_cons_succ])
            refine ap_two 7 11 (by kernel_rfl) ?_ ?_
            refine op_call (f := 29) (vs := #[.agg il.toArray, .int .u32 (a : Int), .int .u32 (a : Int), .agg tv1.toArray, .int .i64 (j : Int)]) 7 rfl (by rfl) rfl (by simp only [List.map_toArray, List.map_cons, List.map_nil]; rfl) Tryd.func29 (by kernel_rfl) (by kernel_rfl) (HRx _ (HKr.out.then hS)).out ?_
            rintro e w16 ⟨rfl, k5⟩
            have hS' := hS.then k5
            refine ⟨_, rfl, fun _ => hS', ?_⟩
            clear k5 hS
            have hS := hS'
            clear hS'
            (simp only [Act.put, List.setIfInBounds_toArray, List.set_cons_zero, List.set_cons_succ])
            (refine ap_val (v := ?_) 8 rfl (by kernel_rfl) (by kernel_rfl) (by kernel_rfl) (by kernel_rfl) (by rfl) hPan ?_ hS ?_; rotate_left; (intro w' hSw; go_simp; try with_reducible rfl); simp only [Act.put, List.setIfInBounds_toArray, List.set_cons_zero, List.set_cons_succ])
            (refine ap_val (v := ?_) 9 rfl (by kernel_rfl) (by kernel_rfl) (by kernel_rfl) (by kernel_rfl) (by rfl) hPan ?_ hS ?_; rotate_left; (intro w' hSw; go_simp; try with_reducible rfl); simp only [Act.put, List.setIfInBounds_toArray, List.set_cons_zero, List.set_cons_succ])
            (refine ap_val (v := ?_) 10 rfl (by kernel_rfl) (by kernel_rfl) (by kernel_rfl) (by kernel_rfl) (by rfl) hPan ?_ hS ?_; rotate_left; (intro w' hSw; go_simp; try with_reducible rfl); simp only [Act.put, List.setIfInBounds_toArray, List.set_cons_zero, List.set_cons_succ])
            refine ap_one 11 (by kernel_rfl) ?_
            refine op_run (v := .pointer (some ⟨w16.heap.size, 0, none⟩)) (w' := w16.alloc (.cells #[.int .i64 0, .int .i64 0, .int .i64 0] 36)) 11 rfl (by rfl) (by go_simp) ?_
            have D := Blk.new w16 36 #[.int .i64 0, .int .i64 0, .int .i64 0]
            have hgz : wr.heap.size ≤ w16.heap.size := hS.size
            obtain ⟨gq, hgq⟩ : ∃ gq, w16.heap.size = gq := ⟨_, rfl⟩
            have hS' := hS.alloc (.cells #[.int .i64 0, .int .i64 0, .int .i64 0] 36)
            generalize w16.alloc (.cells #[.int .i64 0, .int .i64 0, .int .i64 0] 36) = wa at *
            simp only [hgq] at D hgz ⊢
            clear hgq hS
            have hS := hS'
            clear hS'
            refine ⟨fun _ => hS, ?_⟩
            (simp only [Act.put, List.setIfInBounds_toArray, List.set_cons_zero, List.set_cons_succ])
            refine ap_one 12 (by kernel_rfl) ?_
            refine op_store_all 12 rfl (by rfl) rfl rfl rfl (by kernel_rfl) D (by simp [Value.oneCell']) rfl ?_
            intro w17 D17 k17
            have hS17 : Keep [] wr w17 := hS.trans k17 (fun y hy hlt => by simp at hy; omega)
            refine ⟨fun _ => hS17, ?_⟩
            clear k17 hS D
            (simp only [Act.put, List.setIfInBounds_toArray, List.set_cons_zero, List.set_cons_succ])
            refine ap_one 13 (by kernel_rfl) ?_
            refine op_run (v := .bool ok1) (w' := w17) 13 rfl (by rfl) (by go_simp) ?_
            refine ⟨fun _ => hS17, ap_done (by kernel_rfl) ?_ _⟩
            (simp only [Act.put, List.setIfInBounds_toArray, List.set_cons_zero, List.set_cons_succ])
            have HS17 := Lib.hid hS17
            have HD17 := Lib.hid D17
            clear hS17 hPan D17 hgz
            rotate_left
            refine op_run (v := .pointer (some ⟨w15.heap.size, 0, none⟩)) (w' := w15.alloc (.cells #[.int .i64 0, .int .i64 0, .int .i64 0] 36)) 11 rfl (by rfl) (by go_simp) ?_
            have D := Blk.new w15 36 #[.int .i64 0, .int .i64 0, .int .i64 0]
            have hgz : wr.heap.size ≤ w15.heap.size := hS.size
            obtain ⟨gq, hgq⟩ : ∃ gq, w15.heap.size = gq := ⟨_, rfl⟩
            have hS' := hS.alloc (.cells #[.int .i64 0, .int .i64 0, .int .i64 0] 36)
            generalize w15.alloc (.cells #[.int .i64 0, .int .i64 0, .int .i64 0] 36) = wa at *
            simp only [hgq] at D hgz ⊢
            clear hgq hS
            have hS := hS'
            clear hS'
            refine ⟨fun _ => hS, ?_⟩
            (simp only [Act.put, List.setIfInBounds_toArray, List.set_cons_zero, List.set_cons_succ])
            refine ap_one 7 (by kernel_rfl) ?_
            refine op_call (f := 29) (vs := #[.agg il.toArray, .int .u32 (a : Int), .int .u32 (a : Int), .agg tv1.toArray, .int .i64 (j : Int)]) 7 rfl (by rfl) rfl (by simp only [List.map_toArray, List.map_cons, List.map_nil]; rfl) Tryd.func29 (by kernel_rfl) (by kernel_rfl) (HRx _ (HKr.out.then hS)).out ?_
            rintro e w16 ⟨rfl, k5⟩
            have hS' := hS.then k5
            have D := D.keep0 k5
            refine ⟨_, rfl, fun _ => hS', ?_⟩
            clear k5 hS
            have hS := hS'
            clear hS'
            (simp only [Act.put, List.setIfInBounds_toArray, List.set_cons_zero, List.set_cons_succ])
            (refine ap_val (v := ?_) 8 rfl (by kernel_rfl) (by kernel_rfl) (by kernel_rfl) (by kernel_rfl) (by rfl) hPan ?_ hS ?_; rotate_left; (intro w' hSw; go_simp; try with_reducible rfl); simp only [Act.put, List.setIfInBounds_toArray, List.set_cons_zero, List.set_cons_succ])
            (refine ap_val (v := ?_) 9 rfl (by kernel_rfl) (by kernel_rfl) (by kernel_rfl) (by kernel_rfl) (by rfl) hPan ?_ hS ?_; rotate_left; (intro w' hSw; go_simp; try with_reducible rfl); simp only [Act.put, List.setIfInBounds_toArray, List.set_cons_zero, List.set_cons_succ])
            (refine ap_val (v := ?_) 10 rfl (by kernel_rfl) (by kernel_rfl) (by kernel_rfl) (by kernel_rfl) (by rfl) hPan ?_ hS ?_; rotate_left; (intro w' hSw; go_simp; try with_reducible rfl); simp only [Act.put, List.setIfInBounds_toArray, List.set_cons_zero, List.set_cons_succ])
            refine ap_one 12 (by kernel_rfl) ?_
            refine op_store_all 12 rfl (by rfl) rfl rfl rfl (by kernel_rfl) D (by simp [Value.oneCell']) rfl ?_
            intro w17 D17 k17
            have hS17 : Keep [] wr w17 := hS.trans k17 (fun y hy hlt => by simp at hy; omega)
            refine ⟨fun _ => hS17, ?_⟩
            clear k17 hS D
            (simp only [Act.put, List.setIfInBounds_toArray, List.set_cons_zero, List.set_cons_succ])
            refine ap_one 13 (by kernel_rfl) ?_
            refine op_run (v := .bool ok1) (w' := w17) 13 rfl (by rfl) (by go_simp) ?_
            refine ⟨fun _ => hS17, ap_done (by kernel_rfl) ?_ _⟩
            (simp only [Act.put, List.setIfInBounds_toArray, List.set_cons_zero, List.set_cons_succ])
            have HS17 := Lib.hid hS17
            have HD17 := Lib.hid D17
            clear hS17 hPan D17 hgz
            rotate_left
            refine op_run (v := .pointer (some ⟨w14.heap.size, 0, none⟩)) (w' := w14.alloc (.cells #[.int .i64 0, .int .i64 0, .int .i64 0] 36)) 11 rfl (by rfl) (by go_simp) ?_
            have D := Blk.new w14 36 #[.int .i64 0, .int .i64 0, .int .i64 0]
            have hgz : wr.heap.size ≤ w14.heap.size := hS.size
            obtain ⟨gq, hgq⟩ : ∃ gq, w14.heap.size = gq := ⟨_, rfl⟩
            have hS' := hS.alloc (.cells #[.int .i64 0, .int .i64 0, .int .i64 0] 36)
            generalize w14.alloc (.cells #[.int .i64 0, .int .i64 0, .int .i64 0] 36) = wa at *
            simp only [hgq] at D hgz ⊢
            clear hgq hS
            have hS := hS'
            clear hS'
            refine ⟨fun _ => hS, ?_⟩
            (simp only [Act.put, List.setIfInBounds_toArray, List.set_cons_zero, List.set_cons_succ])
            refine ap_one 5 (by kernel_rfl) ?_
            refine op_call (f := 28) (vs := #[.agg il.toArray, .int .u32 (a : Int)]) 5 rfl (by rfl) rfl (by simp only [List.map_toArray, List.map_cons, List.map_nil]; rfl) Tryd.func28 (by kernel_rfl) (by kernel_rfl) (HCx _ (HKr.out.then hS)).out ?_
            rintro e w15 ⟨rfl, k5⟩
            have hS' := hS.then k5
            have D := D.keep0 k5
            refine ⟨_, rfl, fun _ => hS', ?_⟩
            clear k5 hS
            have hS := hS'
            clear hS'
            (simp only [Act.put, List.setIfInBounds_toArray, List.set_cons_zero, List.set_cons_succ])
            refine ap_one 7 (by kernel_rfl) ?_
            refine op_call (f := 29) (vs := #[.agg il.toArray, .int .u32 (a : Int), .int .u32 (a : Int), .agg tv1.toArray, .int .i64 (j : Int)]) 7 rfl (by rfl) rfl (by simp only [List.map_toArray, List.map_cons, List.map_nil]; rfl) Tryd.func29 (by kernel_rfl) (by kernel_rfl) (HRx _ (HKr.out.then hS)).out ?_
            rintro e w16 ⟨rfl, k5⟩
            have hS' := hS.then k5
            have D := D.keep0 k5
            refine ⟨_, rfl, fun _ => hS', ?_⟩
            clear k5 hS
            have hS := hS'
            clear hS'
            (simp only [Act.put, List.setIfInBounds_toArray, List.set_cons_zero, List.set_cons_succ])
            (refine ap_val (v := ?_) 8 rfl (by kernel_rfl) (by kernel_rfl) (by kernel_rfl) (by kernel_rfl) (by rfl) hPan ?_ hS ?_; rotate_left; (intro w' hSw; go_simp; try with_reducible rfl); simp only [Act.put, List.setIfInBounds_toArray, List.set_cons_zero, List.set_cons_succ])
            (refine ap_val (v := ?_) 9 rfl (by kernel_rfl) (by kernel_rfl) (by kernel_rfl) (by kernel_rfl) (by rfl) hPan ?_ hS ?_; rotate_left; (intro w' hSw; go_simp; try with_reducible rfl); simp only [Act.put, List.setIfInBounds_toArray, List.set_cons_zero, List.set_cons_succ])
            (refine ap_val (v := ?_) 10 rfl (by kernel_rfl) (by kernel_rfl) (by kernel_rfl) (by kernel_rfl) (by rfl) hPan ?_ hS ?_; rotate_left; (intro w' hSw; go_simp; try with_reducible rfl); simp only [Act.put, List.setIfInBounds_toArray, List.set_cons_zero, List.set_cons_succ])
            refine ap_one 12 (by kernel_rfl) ?_
            refine op_store_all 12 rfl (by rfl) rfl rfl rfl (by kernel_rfl) D (by simp [Value.oneCell']) rfl ?_
            intro w17 D17 k17
            have hS17 : Keep [] wr w17 := hS.trans k17 (fun y hy hlt => by simp at hy; omega)
            refine ⟨fun _ => hS17, ?_⟩
            clear k17 hS D
            (simp only [Act.put, List.setIfInBounds_toArray, List.set_cons_zero, List.set_cons_succ])
            refine ap_one 13 (by kernel_rfl) ?_
            refine op_run (v := .bool ok1) (w' := w17) 13 rfl (by rfl) (by go_simp) ?_
            refine ⟨fun _ => hS17, ap_done (by kernel_rfl) ?_ _⟩
            (simp only [Act.put, List.setIfInBounds_toArray, List.set_cons_zero, List.set_cons_succ])
            have HS17 := Lib.hid hS17
            have HD17 := Lib.hid D17
            clear hS17 hPan D17 hgz
            rotate_left
            all_goals
              have c15 := (HK.out.then HS17.out)
              go_wp2_with (first
                | (refine wpList_load_agg rfl 26 (.tmp 7) rfl rfl (cs := yl) (by rw [HY2.out]; exact agg_image) (HCY _ (K13.out.then c15)).out ?_)
                | (refine wpList_load_agg rfl 75 (.tmp 10) rfl rfl (cs := tv) (by rw [HTL.out]; exact agg_tab) (HD13.out.keep0 c15).cellsAt ?_))
              refine (HRy _ (K13.out.then c15)).out.mono ?_
              rintro e w18 ⟨rfl, k18⟩
              have HK18 := Lib.hid (c15.then k18)
              have HD18 := Lib.hid (HD17.out.keep0 k18)
              have hz18 := k18.size
              clear k18 c15
              go_wp2_with (refine stop_store 36 (.tmp 14) (.tmp 99) rfl ?_)
              constructor
              refine wpList_store_all rfl 36 (.tmp 14) (.tmp 99) rfl (vs := [.int .i64 a2, .int .i64 b2, .int .i64 c2']) rfl rfl (by kernel_rfl) (Blk.new _ _ _) (by simp [Value.oneCell']) rfl ?_
              intro w19 d19 k19
              have K1819 : Keep [] w18 w19 := ((Keep.refl [] w18).alloc (.cells #[.int .i64 0, .int .i64 0, .int .i64 0] 36)).trans k19 (fun y hy hlt => by simp at hy; omega)
              have HK19 := Lib.hid (HK18.out.then K1819)
              have HD19 := Lib.hid (HD18.out.keep0 K1819)
              have HD19b := Lib.hid d19
              clear k19 K1819 d19 hz18
              obtain ⟨g14, hg14⟩ : ∃ g14, w18.heap.size = g14 := ⟨_, rfl⟩
              simp only [hg14] at *
              clear hg14
              have q1 : w19.cell? ⟨gq, 1, none⟩ = some (.int .i64 b1) := HD19.out.cell 1
              have q2 : w19.cell? ⟨gq, 2, none⟩ = some (.int .i64 c1') := HD19.out.cell 2
              have q3 : w19.cell? ⟨g14, 1, none⟩ = some (.int .i64 b2) := HD19b.out.cell 1
              have q4 : w19.cell? ⟨g14, 2, none⟩ = some (.int .i64 c2') := HD19b.out.cell 2
              obtain ⟨hg1, hg2⟩ := HGR.out
              have hbb : decide (b2 < b1) = false := decide_eq_false (Int.not_lt.2 hg1)
              by_cases hjk : j = k
              · have hne : ((j : Int) != (k : Int)) = false := by rw [hjk]; simp
                clear hg2
                go_wp2
                go_roundw
                case rel => exact ⟨j + 1, by omega, by go_num, HK19.out⟩
                case measure => simp [intOf] <;> omega
              · have hne : ((j : Int) != (k : Int)) = true := by rw [bne_iff_ne]; omega
                cases ok2 with
                | false =>
                  clear hg2
                  go_wp2
                  go_roundw
                  case rel => exact ⟨j + 1, by omega, by go_num, HK19.out⟩
                  case measure => simp [intOf] <;> omega
                | true =>
                  obtain ⟨ho1, hc12⟩ := hg2 hjk rfl
                  subst ho1
                  have hcc : decide (c2' < c1') = false := decide_eq_false (Int.not_lt.2 hc12)
                  clear hg2
                  go_wp2
                  go_roundw
                  case rel => exact ⟨j + 1, by omega, by go_num, HK19.out⟩
                  case measure => simp [intOf] <;> omega
          · go_wp2_with fail
            refine (HAl _ (HK10.out.then HKr.out)).out.mono ?_
            rintro e w20 ⟨rfl, k20⟩
            have K20 := Lib.hid ((HK10.out.then HKr.out).then k20)
            clear k20
            go_wp2
            go_ret
            exact ⟨rfl, K20.out⟩
end Go.Proofs.YtajlkfhekligeaaDoor
