/- How long it takes at the least till each mode is there, by the law (least), from a mode that there is. Condition: an image that may be, a certificate of small numbers. -/
import Derived.Test.YteocldlglklnjaaDoorRouteG
namespace Go.Proofs.YteocldlglklnjaaDoor
open Go.RowKit
attribute [local go_sem] Oper.semAt_some

set_option maxRecDepth 100000 in
set_option maxHeartbeats 16000000 in
theorem least_yes (v : ImgV) (x : Img) (vc : CrtV) (c : Crt) (s : Nat) (w : World) (h : ImgAt w v x) (hc : CrtE w vc c) (hr : (chkImg x).2 = 0) (hl : c.edges.length = x.edges.length) (hB : edgeB c) (hs : s < x.modes.length) :
    Calls Tryd.prog 22 #[.agg (imgCells v x).toArray, .agg (crtCells vc c).toArray, .int .i64 (s : Int)] w (RetRow w (HR (egs x c) s x.modes.length) x.modes.length) := by
  have hR := right_of hr
  have hM8 := hR.nm.2
  have hE24 := hR.ne
  have hok := egs_ok hr hB
  have hel := egs_len hl
  obtain ⟨W0, hW0⟩ : ∃ W0, (w.alloc (.cells (imgCells v x).toArray 26)).alloc (.cells (crtCells vc c).toArray 30) = W0 := ⟨_, rfl⟩
  have b0 : Blk W0 w.heap.size 26 (imgCells v x).toArray := by rw [← hW0]; exact (img_box w v x).alloc _
  have b1 : Blk W0 (w.heap.size + 1) 30 (crtCells vc c).toArray := by rw [← hW0]; exact Blk.new1 _ _ _ _
  have K0 : Keep [] w W0 := by rw [← hW0]; exact ((Keep.refl [] w).alloc _).alloc _
  have hz0 : W0.heap.size = w.heap.size + 2 := by rw [← hW0]; simp
  have HI : Hid (∀ w', Keep [] W0 w' → w'.cell? ⟨w.heap.size, 2, none⟩ = some (.slice v.ma x.modes.length v.mc) ∧ w'.cell? ⟨w.heap.size, 3, none⟩ = some (.slice v.ea x.edges.length v.ec) ∧ w'.cell? ⟨w.heap.size + 1, 1, none⟩ = some (.slice vc.ea c.edges.length vc.ec)) := fun w' hk => ⟨img_c2 (b0.keep0 hk), img_c3 (b0.keep0 hk), by
    have := (b1.keep0 hk).at_ (j := 1) (u := .slice vc.ea c.edges.length vc.ec) rfl
    exact this⟩
  have hlx := h.le
  unfold maxLen at hlx
  have HEd : Hid (∀ i, (hi : i < x.edges.length) → ∃ b o, v.ea = some ⟨b, o, none⟩ ∧ ∀ w', Keep [] W0 w' → CellsAt w' b (o + i * 23) (edgCells x.edges[i])) := fun i hi => by
    obtain ⟨b, o, hA, hbw, hcs⟩ := h.edge (by omega)
    exact ⟨b, o, hA, fun w' k => (hcs i hi).keep0 (K0.then k) hbw⟩
  have hcl := hc.le
  have HSp : Hid (∀ i, (hi : i < c.edges.length) → ∃ b o, vc.ea = some ⟨b, o, none⟩ ∧ ∀ w', Keep [] W0 w' → CellsAt w' b (o + i * 2) [.int .i64 c.edges[i].1, .int .i64 c.edges[i].2]) := fun i hi => by
    obtain ⟨b, o, hA, hbw, hrc⟩ := hc.edges.elems rfl (fun _ _ => rfl) (by omega)
    exact ⟨b, o, hA, fun w' k => CellsAt.keep0 (hrc i hi) (K0.then k) hbw⟩
  have HELn : Hid (∀ i, (hi : i < x.edges.length) → (edgCells x.edges[i]).length = 23) := fun i hi => edgCells_len (h.ok.offs _ (List.getElem_mem hi)) (h.ok.mp _ (List.getElem_mem hi))
  have HRng : Hid (∀ i, (hi : i < x.edges.length) → (0 ≤ x.edges[i].frm ∧ x.edges[i].frm < x.modes.length) ∧ 0 ≤ x.edges[i].to ∧ x.edges[i].to < x.modes.length) := fun i hi => ⟨(hR.edgeIn i hi).1, (hR.edgeIn i hi).2.1⟩
  have HAt : Hid (∀ i, (hi : i < x.edges.length) → (hi2 : i < c.edges.length) → (egs x c)[i]? = some ⟨x.edges[i].frm.toNat, x.edges[i].to.toNat, c.edges[i].1 + c.edges[i].2, c.edges[i].1⟩) := fun i h1 h2 => egs_at h1 h2
  have HBd : Hid (∀ i, (hi : i < c.edges.length) → (0 ≤ c.edges[i].1 ∧ c.edges[i].1 ≤ 536870912) ∧ 0 ≤ c.edges[i].2 ∧ c.edges[i].2 ≤ 536870912) := fun i hi => hB _ (List.getElem_mem hi)
  have HOK := Lib.hid hok
  have HEL := Lib.hid hel
  have HL := Lib.hid hl
  have HM8 := Lib.hid hM8
  have HE24 := Lib.hid hE24
  have HS := Lib.hid hs
  have HHR : Hid (HR (egs x c) s x.modes.length = (roundsH (egs x c) (t0R s, t0R s) x.modes.length).2) := rfl
  have HK0 := Lib.hid K0
  have HW := Lib.hid hW0
  have hIF : ∀ w', Keep [] W0 w' → w'.cell? ⟨w.heap.size, 2, none⟩ = some (.slice v.ma x.modes.length v.mc) ∧ w'.cell? ⟨w.heap.size, 3, none⟩ = some (.slice v.ea x.edges.length v.ec) := fun w' k => ⟨(HI.out w' k).1, (HI.out w' k).2.1⟩
  have q0 : decide ((s : Int) < 0) = false := decide_eq_false (by omega)
  have q1 : decide ((x.modes.length : Int) ≤ (s : Int)) = false := decide_eq_false (by omega)
  have q1n : decide (x.modes.length ≤ s) = false := decide_eq_false (by omega)
  clear h hc hr hl hB hR hok hel K0 hW0 b0 b1 hlx hcl hM8 hE24 hs hz0
  generalize egs x c = es at *
  generalize (imgCells v x).toArray = il at *
  generalize (crtCells vc c).toArray = cl at *
  go_enter Tryd.func22, Tryd.ntmps22
  go_wp2_with (rw [HW.out])
  refine ap_begin 9 (Keep [] W0) rfl (Keep.refl _ _).drew (fun hS hPan => ?_) (fun _ _ d _ _ h => by cases d <;> exact h)
  (refine ap_val (v := ?_) 0 rfl (by kernel_rfl) (by kernel_rfl) (by kernel_rfl) (by kernel_rfl) (by rfl) hPan ?_ hS ?_; rotate_left; (intro w' hSw; go_simp; try with_reducible rfl); simp only [Act.put, List.setIfInBounds_toArray, List.set_cons_zero, List.set_cons_succ])
  (refine ap_val (v := ?_) 1 rfl (by kernel_rfl) (by kernel_rfl) (by kernel_rfl) (by kernel_rfl) (by rfl) hPan ?_ hS ?_; rotate_left; (intro w' hSw; obtain ⟨f1,f2⟩ := hIF w' hSw; go_simp; try with_reducible rfl); simp only [Act.put, List.setIfInBounds_toArray, List.set_cons_zero, List.set_cons_succ])
  (refine ap_val (v := ?_) 2 rfl (by kernel_rfl) (by kernel_rfl) (by kernel_rfl) (by kernel_rfl) (by rfl) hPan ?_ hS ?_; rotate_left; (intro w' hSw; go_simp; try with_reducible rfl); simp only [Act.put, List.setIfInBounds_toArray, List.set_cons_zero, List.set_cons_succ])
  (refine ap_val (v := ?_) 4 rfl (by kernel_rfl) (by kernel_rfl) (by kernel_rfl) (by kernel_rfl) (by rfl) hPan ?_ hS ?_; rotate_left; (intro w' hSw; go_simp; try with_reducible rfl); simp only [Act.put, List.setIfInBounds_toArray, List.set_cons_zero, List.set_cons_succ])
  (refine ap_val (v := ?_) 5 rfl (by kernel_rfl) (by kernel_rfl) (by kernel_rfl) (by kernel_rfl) (by rfl) hPan ?_ hS ?_; rotate_left; (intro w' hSw; obtain ⟨f1,f2⟩ := hIF w' hSw; go_simp; try with_reducible rfl); simp only [Act.put, List.setIfInBounds_toArray, List.set_cons_zero, List.set_cons_succ])
  (refine ap_val (v := ?_) 6 rfl (by kernel_rfl) (by kernel_rfl) (by kernel_rfl) (by kernel_rfl) (by rfl) hPan ?_ hS ?_; rotate_left; (intro w' hSw; go_simp; try with_reducible rfl); simp only [Act.put, List.setIfInBounds_toArray, List.set_cons_zero, List.set_cons_succ])
  generalize W0.drew = wd at *
  refine ap_two 3 7 (by kernel_rfl) ?_ ?_
  refine op_run (v := .slice (some ⟨wd.heap.size, 0, none⟩) x.modes.length x.modes.length) (w' := wd.alloc (.cells (List.replicate x.modes.length (.int .i64 0)).toArray 3)) 3 rfl (by rfl) (run_makeS (by have := HM8.out; omega) rfl rfl wd) ?_
  have DH : Blk (wd.alloc (.cells (List.replicate x.modes.length (.int .i64 0)).toArray 3)) wd.heap.size 3 (List.replicate x.modes.length (.int .i64 0)).toArray := Blk.new _ _ _
  have hS1 : Keep [] W0 (wd.alloc (.cells (List.replicate x.modes.length (.int .i64 0)).toArray 3)) := hS.alloc _
  have hzd := hS.size
  have hz1 : (wd.alloc (.cells (List.replicate x.modes.length (.int .i64 0)).toArray 3)).heap.size = wd.heap.size + 1 := by simp
  obtain ⟨gH, hg1⟩ : ∃ g, wd.heap.size = g := ⟨_, rfl⟩
  rw [hg1] at DH hz1 hzd
  generalize wd.alloc (.cells (List.replicate x.modes.length (.int .i64 0)).toArray 3) = we at *
  refine ⟨fun _ => hS1, ?_⟩
  rw [hg1]
  clear hg1
  replace hS := hS1
  (simp only [Act.put, List.setIfInBounds_toArray, List.set_cons_zero, List.set_cons_succ])
  (refine ap_val (v := ?_) 8 rfl (by kernel_rfl) (by kernel_rfl) (by kernel_rfl) (by kernel_rfl) (by rfl) hPan ?_ hS ?_; rotate_left; (intro w' hSw; go_simp; try with_reducible rfl); simp only [Act.put, List.setIfInBounds_toArray, List.set_cons_zero, List.set_cons_succ])
  refine ap_one 7 (by kernel_rfl) ?_
  refine op_run (v := .slice (some ⟨we.heap.size, 0, none⟩) x.modes.length x.modes.length) (w' := we.alloc (.cells (List.replicate x.modes.length (.int .i64 0)).toArray 3)) 7 rfl (by rfl) (run_makeS (by have := HM8.out; omega) rfl rfl we) ?_
  have DT : Blk (we.alloc (.cells (List.replicate x.modes.length (.int .i64 0)).toArray 3)) we.heap.size 3 (List.replicate x.modes.length (.int .i64 0)).toArray := Blk.new _ _ _
  replace DH := DH.alloc (.cells (List.replicate x.modes.length (.int .i64 0)).toArray 3)
  have hS2 := hS1.alloc (.cells (List.replicate x.modes.length (.int .i64 0)).toArray 3)
  obtain ⟨gT, hg2⟩ : ∃ g, we.heap.size = g := ⟨_, rfl⟩
  have hne : gH ≠ gT := by omega
  have hgH : W0.heap.size ≤ gH := by omega
  have hgT : W0.heap.size ≤ gT := by omega
  rw [hg2] at DT
  generalize we.alloc (.cells (List.replicate x.modes.length (.int .i64 0)).toArray 3) = wf at *
  refine ⟨fun _ => hS2, ?_⟩
  rw [hg2]
  clear hg2 hz1 hzd hS1
  replace hS := hS2
  clear hS2
  (simp only [Act.put, List.setIfInBounds_toArray, List.set_cons_zero, List.set_cons_succ])
  rotate_left
  refine op_run (v := .slice (some ⟨wd.heap.size, 0, none⟩) x.modes.length x.modes.length) (w' := wd.alloc (.cells (List.replicate x.modes.length (.int .i64 0)).toArray 3)) 7 rfl (by rfl) (run_makeS (by have := HM8.out; omega) rfl rfl wd) ?_
  have DT : Blk (wd.alloc (.cells (List.replicate x.modes.length (.int .i64 0)).toArray 3)) wd.heap.size 3 (List.replicate x.modes.length (.int .i64 0)).toArray := Blk.new _ _ _
  have hS1 : Keep [] W0 (wd.alloc (.cells (List.replicate x.modes.length (.int .i64 0)).toArray 3)) := hS.alloc _
  have hzd := hS.size
  have hz1 : (wd.alloc (.cells (List.replicate x.modes.length (.int .i64 0)).toArray 3)).heap.size = wd.heap.size + 1 := by simp
  obtain ⟨gT, hg1⟩ : ∃ g, wd.heap.size = g := ⟨_, rfl⟩
  rw [hg1] at DT hz1 hzd
  generalize wd.alloc (.cells (List.replicate x.modes.length (.int .i64 0)).toArray 3) = we at *
  refine ⟨fun _ => hS1, ?_⟩
  rw [hg1]
  clear hg1
  replace hS := hS1
  (simp only [Act.put, List.setIfInBounds_toArray, List.set_cons_zero, List.set_cons_succ])
  refine ap_one 3 (by kernel_rfl) ?_
  refine op_run (v := .slice (some ⟨we.heap.size, 0, none⟩) x.modes.length x.modes.length) (w' := we.alloc (.cells (List.replicate x.modes.length (.int .i64 0)).toArray 3)) 3 rfl (by rfl) (run_makeS (by have := HM8.out; omega) rfl rfl we) ?_
  have DH : Blk (we.alloc (.cells (List.replicate x.modes.length (.int .i64 0)).toArray 3)) we.heap.size 3 (List.replicate x.modes.length (.int .i64 0)).toArray := Blk.new _ _ _
  replace DT := DT.alloc (.cells (List.replicate x.modes.length (.int .i64 0)).toArray 3)
  have hS2 := hS1.alloc (.cells (List.replicate x.modes.length (.int .i64 0)).toArray 3)
  obtain ⟨gH, hg2⟩ : ∃ g, we.heap.size = g := ⟨_, rfl⟩
  have hne : gH ≠ gT := by omega
  have hgH : W0.heap.size ≤ gH := by omega
  have hgT : W0.heap.size ≤ gT := by omega
  rw [hg2] at DH
  generalize we.alloc (.cells (List.replicate x.modes.length (.int .i64 0)).toArray 3) = wf at *
  refine ⟨fun _ => hS2, ?_⟩
  rw [hg2]
  clear hg2 hz1 hzd hS1
  replace hS := hS2
  clear hS2
  (simp only [Act.put, List.setIfInBounds_toArray, List.set_cons_zero, List.set_cons_succ])
  (refine ap_val (v := ?_) 8 rfl (by kernel_rfl) (by kernel_rfl) (by kernel_rfl) (by kernel_rfl) (by rfl) hPan ?_ hS ?_; rotate_left; (intro w' hSw; go_simp; try with_reducible rfl); simp only [Act.put, List.setIfInBounds_toArray, List.set_cons_zero, List.set_cons_succ])
  rotate_left
  all_goals
    refine ap_one 9 (by kernel_rfl) ?_
    refine op_run (v := .slice (some ⟨gT, 0, none⟩) x.modes.length x.modes.length) (w' := wf) 9 rfl (by rfl) (by go_simp) ?_
    refine ⟨fun _ => hS, ap_done (by kernel_rfl) ?_ _⟩
    (simp only [Act.put, List.setIfInBounds_toArray, List.set_cons_zero, List.set_cons_succ])
    rw [tickL_rep, iniT_zero] at DT
    rw [tickL_rep, iniT_zero] at DH
    have HDT := Lib.hid DT
    have HDH := Lib.hid DH
    have HKF := Lib.hid hS
    have HNE := Lib.hid hne
    have HGG := Lib.hid (And.intro hgT hgH)
    clear DT DH hS hPan hne hgT hgH hIF
    go_wp2
    go_loopw [9] (fun vi wr => ∃ j : Nat, j ≤ x.modes.length ∧ vi = .int .i64 (j : Int) ∧ Blk wr gH 3 (tickL (iniT j) x.modes.length).toArray ∧ Blk wr gT 3 (tickL (iniT j) x.modes.length).toArray ∧ Keep [] W0 wr) (fun vi _ => x.modes.length - (intOf vi).toNat)
    case atStart => exact ⟨0, Nat.zero_le _, rfl, HDH.out, HDT.out, HKF.out⟩
    case round =>
      obtain ⟨j, hj, rfl, hH, hT, hK⟩ := hrel
      have hM8 := HM8.out
      have hgg := HGG.out
      have hne := HNE.out
      by_cases hlt : j < x.modes.length
      · have p0 : (0 : Int) ≤ (j : Int) := by omega
        have p1 : (j : Int) < (x.modes.length : Int) := by omega
        have p2 : decide ((j : Int) < (x.modes.length : Int)) = true := decide_eq_true p1
        have cH := hH.at_ (tickL_at (iniT j) hlt)
        have fH := hH.frozen j
        have hH2 := hH.set_ j (.int .i64 1099511627776)
        rw [tickL_set, iniT_step] at hH2
        have hT2 := hT.keep (keep_set wr gH j (.int .i64 1099511627776)) (by simp; omega)
        have K2 : Keep [] W0 (wr.setCell ⟨gH, j, none⟩ (.int .i64 1099511627776)) := hK.trans (keep_set wr gH j _) (fun y hy hlt => by simp at hy; omega)
        obtain ⟨w2, hw2⟩ : ∃ w2, wr.setCell ⟨gH, j, none⟩ (.int .i64 1099511627776) = w2 := ⟨_, rfl⟩
        rw [hw2] at hT2 hH2 K2
        have cT := hT2.at_ (tickL_at (iniT j) hlt)
        have fT := hT2.frozen j
        have hT3 := hT2.set_ j (.int .i64 1099511627776)
        rw [tickL_set, iniT_step] at hT3
        have hH3 := hH2.keep (keep_set w2 gT j (.int .i64 1099511627776)) (by simp; omega)
        have K3 : Keep [] W0 (w2.setCell ⟨gT, j, none⟩ (.int .i64 1099511627776)) := K2.trans (keep_set w2 gT j _) (fun y hy hlt => by simp at hy; omega)
        have HALL := Lib.hid (And.intro hH3 (And.intro hT3 K3))
        have HW2 := Lib.hid hw2
        clear hT hH hK hT2 hH2 K2 hT3 hH3 K3 hw2
        go_wp2_with (rw [HW2.out])
        go_roundw
        case rel => exact ⟨j + 1, by omega, by go_num, HALL.out.1, HALL.out.2.1, HALL.out.2.2⟩
        case measure => simp [intOf] <;> omega
      · obtain rfl : j = x.modes.length := by omega
        have p2 : decide ((x.modes.length : Int) < (x.modes.length : Int)) = false := by simp
        have hs := HS.out
        have r0 : (0 : Int) ≤ (s : Int) := by omega
        have r1 : (s : Int) < (x.modes.length : Int) := by omega
        have cH := hH.at_ (tickL_at (iniT x.modes.length) hs)
        have fH := hH.frozen s
        have hH2 := hH.set_ s (.int .i64 0)
        rw [tickL_set, iniT_all] at hH2
        have hT2 := hT.keep (keep_set wr gH s (.int .i64 0)) (by simp; omega)
        have K2 : Keep [] W0 (wr.setCell ⟨gH, s, none⟩ (.int .i64 0)) := hK.trans (keep_set wr gH s _) (fun y hy hlt => by simp at hy; omega)
        obtain ⟨w2, hw2⟩ : ∃ w2, wr.setCell ⟨gH, s, none⟩ (.int .i64 0) = w2 := ⟨_, rfl⟩
        rw [hw2] at hT2 hH2 K2
        have cT := hT2.at_ (tickL_at (iniT x.modes.length) hs)
        have fT := hT2.frozen s
        have hT3 := hT2.set_ s (.int .i64 0)
        rw [tickL_set, iniT_all] at hT3
        have hH3 := hH2.keep (keep_set w2 gT s (.int .i64 0)) (by simp; omega)
        have K3 : Keep [] W0 (w2.setCell ⟨gT, s, none⟩ (.int .i64 0)) := K2.trans (keep_set w2 gT s _) (fun y hy hlt => by simp at hy; omega)
        obtain ⟨w3, hw3⟩ : ∃ w3, w2.setCell ⟨gT, s, none⟩ (.int .i64 0) = w3 := ⟨_, rfl⟩
        rw [hw3] at hT3 hH3 K3
        have HALL := Lib.hid (And.intro hH3 (And.intro hT3 K3))
        have HW2 := Lib.hid hw2
        have HW3 := Lib.hid hw3
        clear hT hH hK hT2 hH2 K2 hT3 hH3 K3 hw2 hw3
        go_wp2_with (first | rw [HW2.out] | rw [HW3.out])
        go_loopw [10] (fun vi wr => ∃ k : Nat, k ≤ x.modes.length ∧ vi = .int .i64 (k : Int) ∧ Blk wr gH 3 (tickL (roundsH es (t0R s, t0R s) k).2 x.modes.length).toArray ∧ Blk wr gT 3 (tickL (roundsH es (t0R s, t0R s) k).1 x.modes.length).toArray ∧ Hid (InF (roundsH es (t0R s, t0R s) k).1) ∧ Keep [] W0 wr) (fun vi _ => x.modes.length - (intOf vi).toNat)
        case atStart => exact ⟨0, Nat.zero_le _, rfl, HALL.out.1, HALL.out.2.1, Lib.hid (inF_start s), HALL.out.2.2⟩
        case round =>
          clear q0 q1 q1n cH fH cT fT
          obtain ⟨k, hk, rfl, hH, hT, hin, hK⟩ := hrel
          obtain ⟨c2, c3, _⟩ := HI.out wr hK
          by_cases hlt2 : k < x.modes.length
          · have p0 : (0 : Int) ≤ (k : Int) := by omega
            have p1 : (k : Int) < (x.modes.length : Int) := by omega
            have p3 : decide ((k : Int) < (x.modes.length : Int)) = true := decide_eq_true p1
            have HST : Hid (roundsH es (t0R s, t0R s) (k + 1) = roundH es (roundsH es (t0R s, t0R s) k)) := rfl
            generalize roundsH es (t0R s, t0R s) k = P0 at *
            have HA2 := Lib.hid (And.intro hH (And.intro hT hK))
            clear hH hT hK
            go_wp2
            go_loopw [11] (fun vi wr => ∃ i : Nat, i ≤ x.edges.length ∧ vi = .int .i64 (i : Int) ∧ Blk wr gH 3 (tickL (roundH (es.take i) P0).2 x.modes.length).toArray ∧ Blk wr gT 3 (tickL (roundH (es.take i) P0).1 x.modes.length).toArray ∧ Hid (InF (roundH (es.take i) P0).1) ∧ Keep [] W0 wr) (fun vi _ => x.edges.length - (intOf vi).toNat)
            case atStart => exact ⟨0, Nat.zero_le _, rfl, HA2.out.1, HA2.out.2.1, hin, HA2.out.2.2⟩
            case round =>
              clear c2 c3 hin
              obtain ⟨i, hi, rfl, hH, hT, hin, hK⟩ := hrel
              obtain ⟨_, c3, c4⟩ := HI.out wr hK
              have hE24 := HE24.out
              have hll := HL.out
              by_cases hlt3 : i < x.edges.length
              · have hlt4 : i < c.edges.length := by omega
                obtain ⟨eb, eo, heA, hec⟩ := HEd.out i hlt3
                obtain ⟨sb, so, hsA, hsc⟩ := HSp.out i hlt4
                have hrg := HRng.out i hlt3
                have hat := HAt.out i hlt3 hlt4
                have hbd := HBd.out i hlt4
                have HL23 := Lib.hid (HELn.out i hlt3)
                have HEone : Hid (∀ u ∈ edgCells x.edges[i], u.oneCell' = true) := iv_one _
                have hg0 : Hid ((edgCells x.edges[i])[0]? = some (.int .i64 x.edges[i].frm)) := show _ = _ from rfl
                have hg1 : Hid ((edgCells x.edges[i])[1]? = some (.int .i64 x.edges[i].to)) := show _ = _ from rfl
                rw [heA] at c3
                rw [hsA, hll] at c4
                have p4 : (0 : Int) ≤ (i : Int) := by omega
                have p5 : (i : Int) < (x.edges.length : Int) := by omega
                have p6 : decide ((i : Int) < (x.edges.length : Int)) = true := decide_eq_true p5
                have hF : ∀ w', Keep [] wr w' → w'.cell? ⟨w.heap.size, 3, none⟩ = some (.slice (some ⟨eb, eo, none⟩) x.edges.length v.ec) ∧ w'.cell? ⟨w.heap.size + 1, 1, none⟩ = some (.slice (some ⟨sb, so, none⟩) x.edges.length vc.ec) := fun w' k => by
                  obtain ⟨_, a, b⟩ := HI.out w' (hK.then k)
                  rw [heA] at a
                  rw [hsA, hll] at b
                  exact ⟨a, b⟩
                have hcE : ∀ w', Keep [] wr w' → CellsAt w' eb (eo + i * 23) (edgCells x.edges[i]) := fun w' k => hec w' (hK.then k)
                have hcS : ∀ w', Keep [] wr w' → CellsAt w' sb (so + i * 2) [.int .i64 c.edges[i].1, .int .i64 c.edges[i].2] := fun w' k => hsc w' (hK.then k)
                clear hec hsc heA hsA
                generalize edgCells x.edges[i] = ec at *
                generalize x.edges[i].frm = fr at *
                generalize x.edges[i].to = to_ at *
                generalize c.edges[i].1 = s1 at *
                generalize c.edges[i].2 = s2 at *
                obtain ⟨u, rfl⟩ : ∃ u : Nat, fr = (u : Int) := ⟨fr.toNat, by omega⟩
                obtain ⟨vv, rfl⟩ : ∃ vv : Nat, to_ = (vv : Int) := ⟨to_.toNat, by omega⟩
                rw [Int.toNat_natCast, Int.toNat_natCast] at hat
                have hu : u < x.modes.length := by omega
                have hv : vv < x.modes.length := by omega
                have HRT := Lib.hid (roundH_take es P0 hat)
                generalize roundH (es.take i) P0 = P at *
                obtain ⟨T, H⟩ := P
                simp only at hH hT hin
                have hTF := hin.out u
                have HIN2 := Lib.hid (inF_rel hin.out (e := ⟨u, vv, s1 + s2, s1⟩) (show 0 ≤ s1 + s2 by omega))
                have hgH := hH.lt
                have hgT := hT.lt
                have HH := Lib.hid hH
                have HT := Lib.hid hT
                have HK := Lib.hid hK
                clear hat hrg hH hT hK hin
                go_wp2
                refine ap_begin 13 (Keep [] wr) rfl (Keep.refl _ _).drew (fun hS hPan => ?_) (fun _ _ d _ _ h => by cases d <;> exact h)
                (refine ap_val (v := ?_) 0 rfl (by kernel_rfl) (by kernel_rfl) (by kernel_rfl) (by kernel_rfl) (by rfl) hPan ?_ hS ?_; rotate_left; (intro w' hSw; go_simp; try with_reducible rfl); simp only [Act.put, List.setIfInBounds_toArray, List.set_cons_zero, List.set_cons_succ])
                (refine ap_val (v := ?_) 1 rfl (by kernel_rfl) (by kernel_rfl) (by kernel_rfl) (by kernel_rfl) (by rfl) hPan ?_ hS ?_; rotate_left; (intro w' hSw; obtain ⟨f1,f2⟩ := hF w' hSw; go_simp; try with_reducible rfl); simp only [Act.put, List.setIfInBounds_toArray, List.set_cons_zero, List.set_cons_succ])
                (refine ap_val (v := ?_) 2 rfl (by kernel_rfl) (by kernel_rfl) (by kernel_rfl) (by kernel_rfl) (by rfl) hPan ?_ hS ?_; rotate_left; (intro w' hSw; go_simp; try with_reducible rfl); simp only [Act.put, List.setIfInBounds_toArray, List.set_cons_zero, List.set_cons_succ])
                (refine ap_val (v := ?_) 3 rfl (by kernel_rfl) (by kernel_rfl) (by kernel_rfl) (by kernel_rfl) (by rfl) hPan ?_ hS ?_; rotate_left; (intro w' hSw; go_simp; try with_reducible rfl); simp only [Act.put, List.setIfInBounds_toArray, List.set_cons_zero, List.set_cons_succ])
                refine ap_agg 4 45 (.tmp 68) ec rfl (by kernel_rfl) (by kernel_rfl) (by kernel_rfl) (by kernel_rfl) (by rfl) hPan rfl rfl (by rw [HL23.out]; exact agg_edge23) hcE hS ?_
                (simp only [Act.put, List.setIfInBounds_toArray, List.set_cons_zero, List.set_cons_succ])
                (refine ap_val (v := ?_) 5 rfl (by kernel_rfl) (by kernel_rfl) (by kernel_rfl) (by kernel_rfl) (by rfl) hPan ?_ hS ?_; rotate_left; (intro w' hSw; go_simp; try with_reducible rfl); simp only [Act.put, List.setIfInBounds_toArray, List.set_cons_zero, List.set_cons_succ])
                (refine ap_val (v := ?_) 6 rfl (by kernel_rfl) (by kernel_rfl) (by kernel_rfl) (by kernel_rfl) (by rfl) hPan ?_ hS ?_; rotate_left; (intro w' hSw; obtain ⟨f1,f2⟩ := hF w' hSw; go_simp; try with_reducible rfl); simp only [Act.put, List.setIfInBounds_toArray, List.set_cons_zero, List.set_cons_succ])
                (refine ap_val (v := ?_) 7 rfl (by kernel_rfl) (by kernel_rfl) (by kernel_rfl) (by kernel_rfl) (by rfl) hPan ?_ hS ?_; rotate_left; (intro w' hSw; go_simp; try with_reducible rfl); simp only [Act.put, List.setIfInBounds_toArray, List.set_cons_zero, List.set_cons_succ])
                (refine ap_val (v := ?_) 8 rfl (by kernel_rfl) (by kernel_rfl) (by kernel_rfl) (by kernel_rfl) (by rfl) hPan ?_ hS ?_; rotate_left; (intro w' hSw; go_simp; try with_reducible rfl); simp only [Act.put, List.setIfInBounds_toArray, List.set_cons_zero, List.set_cons_succ])
                refine ap_agg 9 47 (.tmp 73) [.int .i64 s1, .int .i64 s2] rfl (by kernel_rfl) (by kernel_rfl) (by kernel_rfl) (by kernel_rfl) (by rfl) hPan rfl rfl agg_span hcS hS ?_
                (simp only [Act.put, List.setIfInBounds_toArray, List.set_cons_zero, List.set_cons_succ])
                clear hF hcE hcS c3 c4
                generalize wr.drew = wd at *
                refine ap_two 10 11 (by kernel_rfl) ?_ ?_
                refine op_run (v := .pointer (some ⟨wd.heap.size, 0, none⟩)) (w' := wd.alloc (.cells #[.int .i64 0, .int .i64 0, .int .i64 0, .int .i64 0, .int .i64 0, .int .i64 0, .int .i64 0, .int .i64 0, .int .i64 0, .int .i64 0, .int .i64 0, .int .i64 0, .int .i64 0, .int .i64 0, .int .i64 0, .int .i64 0, .int .i64 0, .int .i64 0, .int .i64 0, .int .i64 0, .int .i64 0, .int .i64 0, .int .i64 0] 45)) 10 rfl (by rfl) (by go_simp) ?_
                have DE : Blk (wd.alloc (.cells #[.int .i64 0, .int .i64 0, .int .i64 0, .int .i64 0, .int .i64 0, .int .i64 0, .int .i64 0, .int .i64 0, .int .i64 0, .int .i64 0, .int .i64 0, .int .i64 0, .int .i64 0, .int .i64 0, .int .i64 0, .int .i64 0, .int .i64 0, .int .i64 0, .int .i64 0, .int .i64 0, .int .i64 0, .int .i64 0, .int .i64 0] 45)) wd.heap.size 45 #[.int .i64 0, .int .i64 0, .int .i64 0, .int .i64 0, .int .i64 0, .int .i64 0, .int .i64 0, .int .i64 0, .int .i64 0, .int .i64 0, .int .i64 0, .int .i64 0, .int .i64 0, .int .i64 0, .int .i64 0, .int .i64 0, .int .i64 0, .int .i64 0, .int .i64 0, .int .i64 0, .int .i64 0, .int .i64 0, .int .i64 0] := Blk.new _ _ _
                have hS1 : Keep [] wr (wd.alloc (.cells #[.int .i64 0, .int .i64 0, .int .i64 0, .int .i64 0, .int .i64 0, .int .i64 0, .int .i64 0, .int .i64 0, .int .i64 0, .int .i64 0, .int .i64 0, .int .i64 0, .int .i64 0, .int .i64 0, .int .i64 0, .int .i64 0, .int .i64 0, .int .i64 0, .int .i64 0, .int .i64 0, .int .i64 0, .int .i64 0, .int .i64 0] 45)) := hS.alloc _
                have hzd := hS.size
                have hz1 : (wd.alloc (.cells #[.int .i64 0, .int .i64 0, .int .i64 0, .int .i64 0, .int .i64 0, .int .i64 0, .int .i64 0, .int .i64 0, .int .i64 0, .int .i64 0, .int .i64 0, .int .i64 0, .int .i64 0, .int .i64 0, .int .i64 0, .int .i64 0, .int .i64 0, .int .i64 0, .int .i64 0, .int .i64 0, .int .i64 0, .int .i64 0, .int .i64 0] 45)).heap.size = wd.heap.size + 1 := by simp
                obtain ⟨gE, hg2⟩ : ∃ g, wd.heap.size = g := ⟨_, rfl⟩
                rw [hg2] at DE hz1 hzd
                generalize wd.alloc (.cells #[.int .i64 0, .int .i64 0, .int .i64 0, .int .i64 0, .int .i64 0, .int .i64 0, .int .i64 0, .int .i64 0, .int .i64 0, .int .i64 0, .int .i64 0, .int .i64 0, .int .i64 0, .int .i64 0, .int .i64 0, .int .i64 0, .int .i64 0, .int .i64 0, .int .i64 0, .int .i64 0, .int .i64 0, .int .i64 0, .int .i64 0] 45) = we at *
                refine ⟨fun _ => hS1, ?_⟩
                rw [hg2]
                clear hg2
                (simp only [Act.put, List.setIfInBounds_toArray, List.set_cons_zero, List.set_cons_succ])
                refine ap_one 11 (by kernel_rfl) ?_
                refine op_run (v := .pointer (some ⟨we.heap.size, 0, none⟩)) (w' := we.alloc (.cells #[.int .i64 0, .int .i64 0] 47)) 11 rfl (by rfl) (by go_simp) ?_
                have DS : Blk (we.alloc (.cells #[.int .i64 0, .int .i64 0] 47)) we.heap.size 47 #[.int .i64 0, .int .i64 0] := Blk.new _ _ _
                replace DE := DE.alloc (.cells #[.int .i64 0, .int .i64 0] 47)
                have hS2 := hS1.alloc (.cells #[.int .i64 0, .int .i64 0] 47)
                obtain ⟨gS, hg2⟩ : ∃ g, we.heap.size = g := ⟨_, rfl⟩
                have hne2 : gE ≠ gS := by omega
                have hgE : wr.heap.size ≤ gE := by omega
                have hgS : wr.heap.size ≤ gS := by omega
                rw [hg2] at DS
                generalize we.alloc (.cells #[.int .i64 0, .int .i64 0] 47) = wf2 at *
                refine ⟨fun _ => hS2, ?_⟩
                rw [hg2]
                clear hg2 hz1 hzd hS1 hS
                (simp only [Act.put, List.setIfInBounds_toArray, List.set_cons_zero, List.set_cons_succ])
                rotate_left
                refine op_run (v := .pointer (some ⟨wd.heap.size, 0, none⟩)) (w' := wd.alloc (.cells #[.int .i64 0, .int .i64 0] 47)) 11 rfl (by rfl) (by go_simp) ?_
                have DS : Blk (wd.alloc (.cells #[.int .i64 0, .int .i64 0] 47)) wd.heap.size 47 #[.int .i64 0, .int .i64 0] := Blk.new _ _ _
                have hS1 : Keep [] wr (wd.alloc (.cells #[.int .i64 0, .int .i64 0] 47)) := hS.alloc _
                have hzd := hS.size
                have hz1 : (wd.alloc (.cells #[.int .i64 0, .int .i64 0] 47)).heap.size = wd.heap.size + 1 := by simp
                obtain ⟨gS, hg2⟩ : ∃ g, wd.heap.size = g := ⟨_, rfl⟩
                rw [hg2] at DS hz1 hzd
                generalize wd.alloc (.cells #[.int .i64 0, .int .i64 0] 47) = we at *
                refine ⟨fun _ => hS1, ?_⟩
                rw [hg2]
                clear hg2
                (simp only [Act.put, List.setIfInBounds_toArray, List.set_cons_zero, List.set_cons_succ])
                refine ap_one 10 (by kernel_rfl) ?_
                refine op_run (v := .pointer (some ⟨we.heap.size, 0, none⟩)) (w' := we.alloc (.cells #[.int .i64 0, .int .i64 0, .int .i64 0, .int .i64 0, .int .i64 0, .int .i64 0, .int .i64 0, .int .i64 0, .int .i64 0, .int .i64 0, .int .i64 0, .int .i64 0, .int .i64 0, .int .i64 0, .int .i64 0, .int .i64 0, .int .i64 0, .int .i64 0, .int .i64 0, .int .i64 0, .int .i64 0, .int .i64 0, .int .i64 0] 45)) 10 rfl (by rfl) (by go_simp) ?_
                have DE : Blk (we.alloc (.cells #[.int .i64 0, .int .i64 0, .int .i64 0, .int .i64 0, .int .i64 0, .int .i64 0, .int .i64 0, .int .i64 0, .int .i64 0, .int .i64 0, .int .i64 0, .int .i64 0, .int .i64 0, .int .i64 0, .int .i64 0, .int .i64 0, .int .i64 0, .int .i64 0, .int .i64 0, .int .i64 0, .int .i64 0, .int .i64 0, .int .i64 0] 45)) we.heap.size 45 #[.int .i64 0, .int .i64 0, .int .i64 0, .int .i64 0, .int .i64 0, .int .i64 0, .int .i64 0, .int .i64 0, .int .i64 0, .int .i64 0, .int .i64 0, .int .i64 0, .int .i64 0, .int .i64 0, .int .i64 0, .int .i64 0, .int .i64 0, .int .i64 0, .int .i64 0, .int .i64 0, .int .i64 0, .int .i64 0, .int .i64 0] := Blk.new _ _ _
                replace DS := DS.alloc (.cells #[.int .i64 0, .int .i64 0, .int .i64 0, .int .i64 0, .int .i64 0, .int .i64 0, .int .i64 0, .int .i64 0, .int .i64 0, .int .i64 0, .int .i64 0, .int .i64 0, .int .i64 0, .int .i64 0, .int .i64 0, .int .i64 0, .int .i64 0, .int .i64 0, .int .i64 0, .int .i64 0, .int .i64 0, .int .i64 0, .int .i64 0] 45)
                have hS2 := hS1.alloc (.cells #[.int .i64 0, .int .i64 0, .int .i64 0, .int .i64 0, .int .i64 0, .int .i64 0, .int .i64 0, .int .i64 0, .int .i64 0, .int .i64 0, .int .i64 0, .int .i64 0, .int .i64 0, .int .i64 0, .int .i64 0, .int .i64 0, .int .i64 0, .int .i64 0, .int .i64 0, .int .i64 0, .int .i64 0, .int .i64 0, .int .i64 0] 45)
                obtain ⟨gE, hg2⟩ : ∃ g, we.heap.size = g := ⟨_, rfl⟩
                have hne2 : gE ≠ gS := by omega
                have hgE : wr.heap.size ≤ gE := by omega
                have hgS : wr.heap.size ≤ gS := by omega
                rw [hg2] at DE
                generalize we.alloc (.cells #[.int .i64 0, .int .i64 0, .int .i64 0, .int .i64 0, .int .i64 0, .int .i64 0, .int .i64 0, .int .i64 0, .int .i64 0, .int .i64 0, .int .i64 0, .int .i64 0, .int .i64 0, .int .i64 0, .int .i64 0, .int .i64 0, .int .i64 0, .int .i64 0, .int .i64 0, .int .i64 0, .int .i64 0, .int .i64 0, .int .i64 0] 45) = wf2 at *
                refine ⟨fun _ => hS2, ?_⟩
                rw [hg2]
                clear hg2 hz1 hzd hS1 hS
                (simp only [Act.put, List.setIfInBounds_toArray, List.set_cons_zero, List.set_cons_succ])
                rotate_left
                all_goals
                  have hgg := HGG.out
                  refine ap_one 12 (by kernel_rfl) ?_
                  refine op_store_all (vs := ec) 12 rfl (by rfl) rfl rfl rfl (by rw [HL23.out]; rfl) DE HEone.out (by rw [HL23.out]; rfl) ?_
                  intro w4 d4 k4
                  have S4 : Keep [] wr w4 := hS2.trans k4 (fun y hy hlt => by simp at hy; omega)
                  have DS4 := DS.keep k4 (by simp; omega)
                  refine ⟨fun _ => S4, ?_⟩
                  (simp only [Act.put])
                  refine ap_one 13 (by kernel_rfl) ?_
                  refine op_store_all (vs := [.int .i64 s1, .int .i64 s2]) 13 rfl (by rfl) rfl rfl rfl rfl DS4 (by simp [Value.oneCell']) rfl ?_
                  intro w5 d5 k5
                  have k45 : Keep [] wr w5 := S4.trans k5 (fun y hy hlt => by simp at hy; omega)
                  have d45 := d4.keep k5 (by simp; omega)
                  refine ⟨fun h => (by cases h), ap_done (by kernel_rfl) ?_ _⟩
                  (simp only [Act.put])
                  have HE5 := Lib.hid d45
                  have HS5 := Lib.hid d5
                  have HT5 := Lib.hid (HT.out.keep0 k45)
                  have HH5 := Lib.hid (HH.out.keep0 k45)
                  have HK5 := Lib.hid (HK.out.then k45)
                  have hn1 : gH < w5.heap.size ∧ gT < w5.heap.size := ⟨HH5.out.lt, HT5.out.lt⟩
                  have hE5 : gE ≠ gH ∧ gE ≠ gT ∧ gS ≠ gH ∧ gS ≠ gT := by omega
                  have HE5N := Lib.hid hE5
                  clear d4 k4 S4 DS4 d5 k5 k45 d45 hS2 DE DS hgg HT HH HK hPan hne2 hgE hgS hE5 hn1
                  have q2 : (0 : Int) ≤ (u : Int) := by omega
                  have q3 : (u : Int) < (x.modes.length : Int) := by omega
                  have q4 : (0 : Int) ≤ (vv : Int) := by omega
                  have q5 : (vv : Int) < (x.modes.length : Int) := by omega
                  have hwr : IntKind.i64.wrap (T u + s1) = T u + s1 := IntWalk.i64_in _ (by omega)
                  have hwr2 : IntKind.i64.wrap (T u + s1 + s2) = T u + s1 + s2 := IntWalk.i64_in _ (by omega)
                  have hee : T u + (s1 + s2) = T u + s1 + s2 := by omega
                  have hF5 : ∀ w', Keep [] w5 w' → w'.cell? ⟨gE, 0, none⟩ = some (.int .i64 (u : Int)) ∧ w'.cell? ⟨gE, 1, none⟩ = some (.int .i64 (vv : Int)) ∧ w'.cell? ⟨gS, 0, none⟩ = some (.int .i64 s1) ∧ w'.cell? ⟨gS, 1, none⟩ = some (.int .i64 s2) ∧ w'.cell? ⟨gT, u, none⟩ = some (.int .i64 (T u)) := fun w' k => ⟨(HE5.out.keep0 k).at_ hg0.out, (HE5.out.keep0 k).at_ hg1.out, (HS5.out.keep0 k).at_ (j := 0) (u := .int .i64 s1) rfl, (HS5.out.keep0 k).at_ (j := 1) (u := .int .i64 s2) rfl, (HT5.out.keep0 k).at_ (tickL_at T hu)⟩
                  generalize hdd : T u + s1 = dd at *
                  go_wp2
                  refine wp_region_flow (Keep [] w5) rfl (by kernel_rfl) (Keep.refl _ _).drew ?_
                  repeat (refine fl_val (v := ?_) (by rfl) ?_ ?_; rotate_left; (intro w' hS; obtain ⟨f1,f2,f3,f4,f5⟩ := hF5 w' hS; go_simp; with_reducible rfl); simp only [Act.put, List.setIfInBounds_toArray, List.set_cons_zero, List.set_cons_succ])
                  refine fl_nil ?_
                  intro w6 hS6
                  have hE6 := HE5.out.keep0 hS6
                  have hS6b := HS5.out.keep0 hS6
                  have hT6 := HT5.out.keep0 hS6
                  have hH6 := HH5.out.keep0 hS6
                  have hK6 := HK5.out.then hS6
                  have e1 := hE6.at_ hg1.out
                  have ch := hH6.at_ (tickL_at H hv)
                  clear hS6 hF5 HE5 HS5 HT5 HH5 HK5
                  by_cases hch : dd < H vv
                  · have z2 : decide (dd < H vv) = true := decide_eq_true hch
                    have HCH := Lib.hid hch
                    have fH := hH6.frozen vv
                    have hH8 := hH6.set_ vv (.int .i64 dd)
                    rw [tickL_set] at hH8
                    have hT8 := hT6.keep (keep_set w6 gH vv (.int .i64 dd)) (by have := HNE.out; simp; omega)
                    have hE8 := hE6.keep (keep_set w6 gH vv (.int .i64 dd)) (by have := HE5N.out; simp; omega)
                    have hS8 := hS6b.keep (keep_set w6 gH vv (.int .i64 dd)) (by have := HE5N.out; simp; omega)
                    have K8 : Keep [] W0 (w6.setCell ⟨gH, vv, none⟩ (.int .i64 dd)) := hK6.trans (keep_set w6 gH vv _) (fun y hy hlt => by have := HGG.out; simp at hy; omega)
                    obtain ⟨w8, hw8⟩ : ∃ w8, w6.setCell ⟨gH, vv, none⟩ (.int .i64 dd) = w8 := ⟨_, rfl⟩
                    rw [hw8] at hH8 hT8 hE8 hS8 K8
                    have HW8 := Lib.hid hw8
                    have HE8 := Lib.hid hE8
                    have HS8 := Lib.hid hS8
                    have HT8 := Lib.hid hT8
                    have HH8 := Lib.hid hH8
                    have HK8 := Lib.hid K8
                    clear hH8 hT8 hE8 hS8 K8 hw8 hch hE6 hS6b hT6 hH6 hK6
                    go_wp2_with (rw [HW8.out])
                    have hF8 : ∀ w', Keep [] w8 w' → w'.cell? ⟨gE, 0, none⟩ = some (.int .i64 (u : Int)) ∧ w'.cell? ⟨gE, 1, none⟩ = some (.int .i64 (vv : Int)) ∧ w'.cell? ⟨gS, 0, none⟩ = some (.int .i64 s1) ∧ w'.cell? ⟨gS, 1, none⟩ = some (.int .i64 s2) ∧ w'.cell? ⟨gT, u, none⟩ = some (.int .i64 (T u)) := fun w' k => ⟨(HE8.out.keep0 k).at_ hg0.out, (HE8.out.keep0 k).at_ hg1.out, (HS8.out.keep0 k).at_ (j := 0) (u := .int .i64 s1) rfl, (HS8.out.keep0 k).at_ (j := 1) (u := .int .i64 s2) rfl, (HT8.out.keep0 k).at_ (tickL_at T hu)⟩
                    refine wp_region_flow (Keep [] w8) rfl (by kernel_rfl) (Keep.refl _ _).drew ?_
                    repeat (refine fl_val (v := ?_) (by rfl) ?_ ?_; rotate_left; (intro w' hS; obtain ⟨f1,f2,f3,f4,f5⟩ := hF8 w' hS; go_simp; with_reducible rfl); simp only [Act.put, List.setIfInBounds_toArray, List.set_cons_zero, List.set_cons_succ])
                    refine fl_nil ?_
                    intro w9 hS9
                    have hE9 := HE8.out.keep0 hS9
                    have hH9 := HH8.out.keep0 hS9
                    have hT9 := HT8.out.keep0 hS9
                    have hK9 := HK8.out.then hS9
                    have e0 := hE9.at_ hg0.out
                    have e1 := hE9.at_ hg1.out
                    have tv := hT9.at_ (tickL_at T hv)
                    clear hS9 hF8
                    by_cases hct : dd + s2 < T vv
                    · have z3 : decide (dd + s2 < T vv) = true := decide_eq_true hct
                      have HRR : Hid (relH (T, H) ⟨u, vv, s1 + s2, s1⟩ = (upd T vv (dd + s2), upd H vv dd)) := by
                        show _ = _
                        unfold relH rel
                        simp only
                        rw [hee, hdd, if_pos hct, if_pos HCH.out]
                      have fT := hT9.frozen vv
                      have hT10 := hT9.set_ vv (.int .i64 (dd + s2))
                      rw [tickL_set] at hT10
                      have hH10 := hH9.keep (keep_set w9 gT vv (.int .i64 (dd + s2))) (by have := HNE.out; simp; omega)
                      have K10 : Keep [] W0 (w9.setCell ⟨gT, vv, none⟩ (.int .i64 (dd + s2))) := hK9.trans (keep_set w9 gT vv _) (fun y hy hlt => by have := HGG.out; simp at hy; omega)
                      obtain ⟨w10, hw10⟩ : ∃ w10, w9.setCell ⟨gT, vv, none⟩ (.int .i64 (dd + s2)) = w10 := ⟨_, rfl⟩
                      rw [hw10] at hT10 hH10 K10
                      have HW9 := Lib.hid hw10
                      have HA9 := Lib.hid (And.intro hH10 (And.intro hT10 K10))
                      clear hT10 hH10 K10 hw10 hT9 hH9 hK9 hE9 hct
                      go_wp2_with (rw [HW9.out])
                      go_roundw
                      case rel => exact ⟨i + 1, by omega, by go_num, by rw [HRT.out, HRR.out]; exact HA9.out.1, by rw [HRT.out, HRR.out]; exact HA9.out.2.1, by rw [HRT.out]; exact HIN2, HA9.out.2.2⟩
                      case measure => simp [intOf] <;> omega
                    · have z3 : decide (dd + s2 < T vv) = false := decide_eq_false hct
                      have HRR : Hid (relH (T, H) ⟨u, vv, s1 + s2, s1⟩ = (T, upd H vv dd)) := by
                        show _ = _
                        unfold relH rel
                        simp only
                        rw [hee, hdd, if_neg hct, if_pos HCH.out]
                      have HA9 := Lib.hid (And.intro hH9 (And.intro hT9 hK9))
                      clear hT9 hH9 hK9 hE9 hct
                      go_wp2
                      go_roundw
                      case rel => exact ⟨i + 1, by omega, by go_num, by rw [HRT.out, HRR.out]; exact HA9.out.1, by rw [HRT.out, HRR.out]; exact HA9.out.2.1, by rw [HRT.out]; exact HIN2, HA9.out.2.2⟩
                      case measure => simp [intOf] <;> omega
                  · have z2 : decide (dd < H vv) = false := decide_eq_false hch
                    have HCH := Lib.hid hch
                    clear hch
                    have HE8 := Lib.hid hE6
                    have HS8 := Lib.hid hS6b
                    have HT8 := Lib.hid hT6
                    have HH8 := Lib.hid hH6
                    have HK8 := Lib.hid hK6
                    clear hE6 hS6b hT6 hH6 hK6
                    generalize w6 = w8 at *
                    go_wp2
                    have hF8 : ∀ w', Keep [] w8 w' → w'.cell? ⟨gE, 0, none⟩ = some (.int .i64 (u : Int)) ∧ w'.cell? ⟨gE, 1, none⟩ = some (.int .i64 (vv : Int)) ∧ w'.cell? ⟨gS, 0, none⟩ = some (.int .i64 s1) ∧ w'.cell? ⟨gS, 1, none⟩ = some (.int .i64 s2) ∧ w'.cell? ⟨gT, u, none⟩ = some (.int .i64 (T u)) := fun w' k => ⟨(HE8.out.keep0 k).at_ hg0.out, (HE8.out.keep0 k).at_ hg1.out, (HS8.out.keep0 k).at_ (j := 0) (u := .int .i64 s1) rfl, (HS8.out.keep0 k).at_ (j := 1) (u := .int .i64 s2) rfl, (HT8.out.keep0 k).at_ (tickL_at T hu)⟩
                    refine wp_region_flow (Keep [] w8) rfl (by kernel_rfl) (Keep.refl _ _).drew ?_
                    repeat (refine fl_val (v := ?_) (by rfl) ?_ ?_; rotate_left; (intro w' hS; obtain ⟨f1,f2,f3,f4,f5⟩ := hF8 w' hS; go_simp; with_reducible rfl); simp only [Act.put, List.setIfInBounds_toArray, List.set_cons_zero, List.set_cons_succ])
                    refine fl_nil ?_
                    intro w9 hS9
                    have hE9 := HE8.out.keep0 hS9
                    have hH9 := HH8.out.keep0 hS9
                    have hT9 := HT8.out.keep0 hS9
                    have hK9 := HK8.out.then hS9
                    have e0 := hE9.at_ hg0.out
                    have e1 := hE9.at_ hg1.out
                    have tv := hT9.at_ (tickL_at T hv)
                    clear hS9 hF8
                    by_cases hct : dd + s2 < T vv
                    · have z3 : decide (dd + s2 < T vv) = true := decide_eq_true hct
                      have HRR : Hid (relH (T, H) ⟨u, vv, s1 + s2, s1⟩ = (upd T vv (dd + s2), H)) := by
                        show _ = _
                        unfold relH rel
                        simp only
                        rw [hee, hdd, if_pos hct, if_neg (Int.not_lt.2 HCH.out)]
                      have fT := hT9.frozen vv
                      have hT10 := hT9.set_ vv (.int .i64 (dd + s2))
                      rw [tickL_set] at hT10
                      have hH10 := hH9.keep (keep_set w9 gT vv (.int .i64 (dd + s2))) (by have := HNE.out; simp; omega)
                      have K10 : Keep [] W0 (w9.setCell ⟨gT, vv, none⟩ (.int .i64 (dd + s2))) := hK9.trans (keep_set w9 gT vv _) (fun y hy hlt => by have := HGG.out; simp at hy; omega)
                      obtain ⟨w10, hw10⟩ : ∃ w10, w9.setCell ⟨gT, vv, none⟩ (.int .i64 (dd + s2)) = w10 := ⟨_, rfl⟩
                      rw [hw10] at hT10 hH10 K10
                      have HW9 := Lib.hid hw10
                      have HA9 := Lib.hid (And.intro hH10 (And.intro hT10 K10))
                      clear hT10 hH10 K10 hw10 hT9 hH9 hK9 hE9 hct
                      go_wp2_with (rw [HW9.out])
                      go_roundw
                      case rel => exact ⟨i + 1, by omega, by go_num, by rw [HRT.out, HRR.out]; exact HA9.out.1, by rw [HRT.out, HRR.out]; exact HA9.out.2.1, by rw [HRT.out]; exact HIN2, HA9.out.2.2⟩
                      case measure => simp [intOf] <;> omega
                    · have z3 : decide (dd + s2 < T vv) = false := decide_eq_false hct
                      have HRR : Hid (relH (T, H) ⟨u, vv, s1 + s2, s1⟩ = (T, H)) := by
                        show _ = _
                        unfold relH rel
                        simp only
                        rw [hee, hdd, if_neg hct, if_neg (Int.not_lt.2 HCH.out)]
                      have HA9 := Lib.hid (And.intro hH9 (And.intro hT9 hK9))
                      clear hT9 hH9 hK9 hE9 hct
                      go_wp2
                      go_roundw
                      case rel => exact ⟨i + 1, by omega, by go_num, by rw [HRT.out, HRR.out]; exact HA9.out.1, by rw [HRT.out, HRR.out]; exact HA9.out.2.1, by rw [HRT.out]; exact HIN2, HA9.out.2.2⟩
                      case measure => simp [intOf] <;> omega
              · obtain rfl : i = x.edges.length := by omega
                have p6 : decide ((x.edges.length : Int) < (x.edges.length : Int)) = false := by simp
                have htk : es.take x.edges.length = es := List.take_of_length_le (by rw [HEL.out]; exact Nat.le_refl _)
                rw [htk] at hT hH hin
                have HA := Lib.hid (And.intro hH (And.intro hT hK))
                clear hT hH hK htk
                go_wp2
                go_roundw
                case rel => exact ⟨k + 1, by omega, by go_num, by rw [HST.out]; exact HA.out.1, by rw [HST.out]; exact HA.out.2.1, by rw [HST.out]; exact hin, HA.out.2.2⟩
                case measure => simp [intOf] <;> omega
          · obtain rfl : k = x.modes.length := by omega
            have p3 : decide ((x.modes.length : Int) < (x.modes.length : Int)) = false := by simp
            have HA := Lib.hid (And.intro hH (And.intro hT hK))
            clear hT hH hK
            go_wp2
            go_ret
            exact ⟨gH, rfl, by rw [HHR.out]; exact HA.out.1, HK0.out.then HA.out.2.2⟩
end Go.Proofs.YteocldlglklnjaaDoor
