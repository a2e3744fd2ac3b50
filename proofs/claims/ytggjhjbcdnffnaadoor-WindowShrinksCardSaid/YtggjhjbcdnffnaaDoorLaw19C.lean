/- WindowShrinks: the law's walk. Condition: the table of math/bits lies where the program's text lays it. -/
import Derived.Test.YtggjhjbcdnffnaaDoorLaw19P
namespace Go.Proofs.YtggjhjbcdnffnaaDoor
open Go.RowKit

set_option maxRecDepth 100000 in
set_option maxHeartbeats 4000000 in
theorem windowShrinks_any (v : ImgV) (x : Img) (L M : List Int) (w : World) (hTb : Tab w) (h : ImgAt w v x) (hL : L.length = 16) (hM : M.length = 16) :
    Calls Tryd.prog 4 #[.agg (imgCells v x).toArray, .agg (iv L).toArray, .agg (iv M).toArray] w fun e w' => e = .returned (.bool true) ∧ Keep [] w w' := by
  obtain ⟨W0, hW0⟩ : ∃ W0, ((w.alloc (.cells (imgCells v x).toArray 26)).alloc (.cells (iv L).toArray 27)).alloc (.cells (iv M).toArray 27) = W0 := ⟨_, rfl⟩
  have b0 : Blk W0 w.heap.size 26 (imgCells v x).toArray := by rw [← hW0]; exact ((img_box w v x).alloc _).alloc _
  have b1 : Blk W0 (w.heap.size + 1) 27 (iv L).toArray := by rw [← hW0]; exact (Blk.new1 _ _ _ _).alloc _
  have b2 : Blk W0 (w.heap.size + 2) 27 (iv M).toArray := by rw [← hW0]; exact Blk.new2 _ _ _ _ _
  have K0 : Keep [] w W0 := by rw [← hW0]; exact (((Keep.refl [] w).alloc _).alloc _).alloc _
  have HC0 : Hid (∀ w', Keep [w.heap.size + 2] W0 w' → CellsAt w' w.heap.size 0 (imgCells v x)) := fun w' hk => (b0.keep hk (by simp)).cellsAt
  have HC1 : Hid (∀ w', Keep [w.heap.size + 2] W0 w' → CellsAt w' (w.heap.size + 1) 0 (iv L)) := fun w' hk => (b1.keep hk (by simp)).cellsAt
  have HI1 : Hid (∀ w', Keep [w.heap.size + 2] W0 w' → w'.cell? ⟨w.heap.size, 1, none⟩ = some (.slice v.ta x.tasks.length v.tc) ∧ w'.cell? ⟨w.heap.size, 3, none⟩ = some (.slice v.ea x.edges.length v.ec)) := fun w' hk => ⟨img_c1 (b0.keep hk (by simp)), by rw [(b0.keep hk (by simp)).cell]; rfl⟩
  have HIC : Hid ((imgCells v x).length = 4) := show _ = _ from rfl
  have HOC : Hid ((iv L).length = 16) := by show _ = _; rw [iv_len]; exact hL
  have HOM : Hid ((iv M).length = 16) := by show _ = _; rw [iv_len]; exact hM
  have HG := Lib.hid (great_any v x W0 (h.keep0 K0))
  have HR := fun w' hk' => Lib.hid (right_any v x w' (h.keep0 (K0.then hk')))
  have HO1 := fun w' => Lib.hid (offs19_any L w' hL)
  have HO2 := fun w' => Lib.hid (offs19_any M w' hM)
  have HAl := fun w' hk => Lib.hid (alive19 w' (hTb.keep0 (w' := w') hk))
  have B1 := Lib.hid b1
  have B2 := Lib.hid b2
  have hKW : ∀ w', Keep [w.heap.size + 2] W0 w' → Keep [] w w' := fun w' hk => K0.trans hk (fun y hy hlt => by simp at hy; omega)
  have HKW := Lib.hid hKW
  have HW := Lib.hid hW0
  have HL := Lib.hid hL
  have HM := Lib.hid hM
  clear hW0 b0 b1 b2
  cases hg : greatImg x with
  | true =>
    rw [hg] at HG
    clear h HR HO1 HO2 HAl hTb
    generalize imgCells v x = il at *
    go_enter Tryd.func4, Tryd.ntmps4
    go_wp2_with (first
      | rw [HW.out]
      | (refine wpList_load_agg rfl 26 (.tmp 3) rfl rfl (cs := il) (by rw [HIC.out]; exact agg_image) (HC0.out _ (Keep.refl _ _)) ?_))
    refine HG.out.mono ?_
    rintro e w2 ⟨rfl, k2⟩
    go_wp2
    go_ret
    exact ⟨rfl, K0.then k2⟩
  | false =>
  rw [hg] at HG
  cases hr : ((chkImg x).2 == 0) with
  | false =>
    rw [hr] at HR
    clear h HO1 HO2 HAl hTb
    generalize imgCells v x = il at *
    go_enter Tryd.func4, Tryd.ntmps4
    go_wp2_with (first
      | rw [HW.out]
      | (refine wpList_load_agg rfl 26 (.tmp 3) rfl rfl (cs := il) (by rw [HIC.out]; exact agg_image) (HC0.out _ (Keep.refl _ _)) ?_))
    refine HG.out.mono ?_
    rintro e w2 ⟨rfl, k2⟩
    have hc2 := Lib.hid (HC0.out w2 (k2.mono (by simp)))
    go_wp2_with (refine wpList_agg_gd rfl 26 (.tmp 3) rfl rfl (cs := il) (by rw [HIC.out]; exact agg_image) hc2.out ?_)
    refine (HR _ k2).out.mono ?_
    rintro e w3 ⟨rfl, k3⟩
    have k13 := k2.then k3
    go_wp2
    go_ret
    exact ⟨rfl, K0.then k13⟩
  | true =>
  rw [hr] at HR
  cases hl : offsB L with
  | false =>
    rw [hl] at HO1
    clear h HO2 HAl hTb
    generalize imgCells v x = il at *
    generalize iv L = lc at *
    go_enter Tryd.func4, Tryd.ntmps4
    go_wp2_with (first
      | rw [HW.out]
      | (refine wpList_load_agg rfl 26 (.tmp 3) rfl rfl (cs := il) (by rw [HIC.out]; exact agg_image) (HC0.out _ (Keep.refl _ _)) ?_))
    refine HG.out.mono ?_
    rintro e w2 ⟨rfl, k2⟩
    have hc2 := Lib.hid (HC0.out w2 (k2.mono (by simp)))
    go_wp2_with (refine wpList_agg_gd rfl 26 (.tmp 3) rfl rfl (cs := il) (by rw [HIC.out]; exact agg_image) hc2.out ?_)
    refine (HR _ k2).out.mono ?_
    rintro e w3 ⟨rfl, k3⟩
    have k13 := k2.then k3
    have hc3 := Lib.hid (HC1.out w3 (k13.mono (by simp)))
    go_wp2_with (refine wpList_agg_gd rfl 27 (.tmp 4) rfl rfl (cs := lc) (by rw [HOC.out]; exact agg_offs) hc3.out ?_)
    refine (HO1 _).out.mono ?_
    rintro e w4 ⟨rfl, k4⟩
    have k14 := k13.then k4
    go_wp2
    go_ret
    exact ⟨rfl, K0.then k14⟩
  | true =>
  rw [hl] at HO1
  cases hm : offsB M with
  | false =>
    rw [hm] at HO2
    clear h HAl hTb
    generalize imgCells v x = il at *
    generalize hlc : iv L = lc at *
    generalize hmc : iv M = mc at *
    go_enter Tryd.func4, Tryd.ntmps4
    go_wp2_with (first
      | rw [HW.out]
      | (refine wpList_load_agg rfl 26 (.tmp 3) rfl rfl (cs := il) (by rw [HIC.out]; exact agg_image) (HC0.out _ (Keep.refl _ _)) ?_))
    refine HG.out.mono ?_
    rintro e w2 ⟨rfl, k2⟩
    have hc2 := Lib.hid (HC0.out w2 (k2.mono (by simp)))
    go_wp2_with (refine wpList_agg_gd rfl 26 (.tmp 3) rfl rfl (cs := il) (by rw [HIC.out]; exact agg_image) hc2.out ?_)
    refine (HR _ k2).out.mono ?_
    rintro e w3 ⟨rfl, k3⟩
    have k13 := k2.then k3
    have hc3 := Lib.hid (HC1.out w3 (k13.mono (by simp)))
    go_wp2_with (refine wpList_agg_gd rfl 27 (.tmp 4) rfl rfl (cs := lc) (by rw [HOC.out]; exact agg_offs) hc3.out ?_)
    refine (HO1 _).out.mono ?_
    rintro e w4 ⟨rfl, k4⟩
    have k14 := k13.then k4
    have hc4 := Lib.hid (B2.out.keep0 k14).cellsAt
    go_wp2_with (refine wpList_agg_gd rfl 27 (.tmp 5) rfl rfl (cs := mc) (by rw [HOM.out]; exact agg_offs) hc4.out ?_)
    refine (HO2 _).out.mono ?_
    rintro e w5 ⟨rfl, k5⟩
    have k15 := k14.then k5
    go_wp2
    go_ret
    exact ⟨rfl, K0.then k15⟩
  | true =>
    rw [hm] at HO2
    have hx0 : (chkImg x).2 = 0 := by simpa using hr
    have hx := small_of hx0
    have HX := Lib.hid hx
    have hLo := offsB_ok hL hl
    have hMo := offsB_ok hM hm
    have hNo := mixL_ok hLo hMo 16
    have hle := mixL_le (M := M) hLo
    have HED := Lib.hid (fun k hk => edge_w hx0 h.ok k hk)
    have hle63 := h.le
    unfold maxLen at hle63
    have HNW := fun (k : Nat) hk (N : List Int) (hN : N.length = 16) w' hk' => Lib.hid (new_in v x k N w' (hTb.keep0 (w' := w') hk') (h.keep0 hk') hk hN)
    have HWN := fun (c : Cls) (T N : List Int) (hc : c.Ok) (hT : T.length = 8) (hN : OffOk N) (hw : InW x.tasks.length c.both) (i : Int) w' hk' => Lib.hid (win_any v x c T N i w' (hTb.keep0 (w' := w') hk') (h.keep0 hk') hc hT hN hx hw)
    have HLH := fun (c : Cls) (T N : List Int) (hc : c.Ok) (hT : T.length = 8) (hN : OffOk N) (hw : InW x.tasks.length c.both) (hw2 : InW x.tasks.length c.to) w' hk' => Lib.hid (lateHelp_any v x c T N w' (hTb.keep0 (w' := w') hk') (h.keep0 hk') hc hT hN hx hw hw2)
    have hn := hx.n
    have HN := Lib.hid hn
    have HNO := Lib.hid hNo
    have HLO := Lib.hid hLo
    have HLE := Lib.hid hle
    have HMX := Lib.hid (mixL_zero hM (L := L))
    have hz0 : w.heap.size + 2 < W0.heap.size := B2.out.lt
    clear h hTb hx hx0 hLo hMo hNo hle hr hg hl hm hL hM
    generalize imgCells v x = il at *
    generalize hlc : iv L = lc at *
    generalize hmc : iv M = mc at *
    have HLC := Lib.hid hlc
    have HMC := Lib.hid hmc
    clear hlc hmc
    go_enter Tryd.func4, Tryd.ntmps4
    go_wp2_with (first
      | rw [HW.out]
      | (refine wpList_load_agg rfl 26 (.tmp 3) rfl rfl (cs := il) (by rw [HIC.out]; exact agg_image) (HC0.out _ (Keep.refl _ _)) ?_))
    refine HG.out.mono ?_
    rintro e w2 ⟨rfl, k2⟩
    have hc2 := Lib.hid (HC0.out w2 (k2.mono (by simp)))
    go_wp2_with (refine wpList_agg_gd rfl 26 (.tmp 3) rfl rfl (cs := il) (by rw [HIC.out]; exact agg_image) hc2.out ?_)
    refine (HR _ k2).out.mono ?_
    rintro e w3 ⟨rfl, k3⟩
    have k13 := k2.then k3
    have hc3 := Lib.hid (HC1.out w3 (k13.mono (by simp)))
    go_wp2_with (refine wpList_agg_gd rfl 27 (.tmp 4) rfl rfl (cs := lc) (by rw [HOC.out]; exact agg_offs) hc3.out ?_)
    refine (HO1 _).out.mono ?_
    rintro e w4 ⟨rfl, k4⟩
    have k14 := k13.then k4
    have hc4 := Lib.hid (B2.out.keep0 k14).cellsAt
    go_wp2_with (refine wpList_agg_gd rfl 27 (.tmp 5) rfl rfl (cs := mc) (by rw [HOM.out]; exact agg_offs) hc4.out ?_)
    refine (HO2 _).out.mono ?_
    rintro e w5 ⟨rfl, k5⟩
    have k15 := k14.then k5
    have HK15 := Lib.hid k15
    clear k2 k3 k4 k5 k13 k14 k15 hc2 hc3 hc4 HG HR HO1 HO2
    go_wp2
    go_loopw [7] (fun i wr => ∃ k : Nat, k ≤ 16 ∧ i = .int .i64 k ∧ Blk wr (w.heap.size + 2) 27 (iv (mixL L M k)).toArray ∧ Keep [w.heap.size + 2] W0 wr) (fun i _ => 16 - (intOf i).toNat)
    case atStart => exact ⟨0, Nat.zero_le _, rfl, by rw [HMX.out, HMC.out]; exact B2.out.keep0 HK15.out, HK15.out.mono (by simp)⟩
    case round =>
      obtain ⟨k, hk, rfl, hb2, hK⟩ := hrel
      by_cases hlt : k < 16
      · have c1 : wr.cell? ⟨w.heap.size + 1, k, none⟩ = some (.int .i64 (L.getD k 0)) := (B1.out.keep hK (by simp)).at_ (by
          rw [← HLC.out]; unfold iv
          rw [List.getElem?_map, List.getD_eq_getElem?_getD, List.getElem?_eq_getElem (by rw [HL.out]; exact hlt)]; rfl)
        have c2 : wr.cell? ⟨w.heap.size + 2, k, none⟩ = some (.int .i64 (M.getD k 0)) := hb2.at_ (by
          unfold iv
          rw [List.getElem?_map, mixL_get _ _ _ _ hlt, if_neg (by omega)]; rfl)
        have hl1 := (B1.out.keep hK (by simp)).lt
        have hl2 := hb2.lt
        have hs := mixL_set L M k
        have hsm := mixL_same (L := L) (M := M) hlt
        have p0 : (0 : Int) ≤ (k : Int) := by omega
        have p1 : (k : Int) < 16 := by omega
        have HB2 := Lib.hid hb2
        have HK := Lib.hid hK
        clear hb2 hK
        generalize L.getD k 0 = lk at *
        generalize M.getD k 0 = mk at *
        have hF : ∀ w', Keep [] wr w' → w'.cell? ⟨w.heap.size + 1, k, none⟩ = some (.int .i64 lk) ∧ w'.cell? ⟨w.heap.size + 2, k, none⟩ = some (.int .i64 mk) := fun w' hk' => ⟨(hk'.cell (p := ⟨w.heap.size + 1, k, none⟩) hl1 (by simp)).trans c1, (hk'.cell (p := ⟨w.heap.size + 2, k, none⟩) hl2 (by simp)).trans c2⟩
        rcases Int.lt_or_le mk lk with hlm | hlm
        · have hdec : decide (mk < lk) = true := decide_eq_true hlm
          have HS : Hid (mixL L M (k + 1) = (mixL L M k).set k lk) := by show _ = _; rw [hs, show max lk mk = lk by omega]
          clear hs hsm c1 c2
          go_wp2
          refine wp_region_flow (Keep [] wr) rfl (by kernel_rfl) (Keep.refl _ _).drew ?_
          repeat (refine fl_val (v := ?_) (by rfl) ?_ ?_; rotate_left; (intro w' hS; obtain ⟨f1,f2⟩ := hF w' hS; go_simp; with_reducible rfl); simp only [Act.put, List.setIfInBounds_toArray, List.set_cons_zero, List.set_cons_succ])
          refine fl_nil ?_
          intro wS hS
          obtain ⟨g1, g2⟩ := hF _ hS
          have hb3 := HB2.out.keep0 hS
          have fr := hb3.frozen k
          have HB3 := Lib.hid hb3
          have HKS := Lib.hid (HK.out.then hS)
          clear hF hb3 hS
          go_wp2
          have q2 := HB3.out.set_ k (.int .i64 lk)
          rw [iv_set, ← HS.out] at q2
          have kk := HKS.out.setCell (p := ⟨w.heap.size + 2, k, none⟩) (by simp) (.int .i64 lk)
          go_roundw
          case rel => exact ⟨k + 1, by omega, by go_num, q2, kk⟩
          case measure => simp [intOf] <;> omega
        · have hdec : decide (mk < lk) = false := decide_eq_false (by omega)
          have HS : Hid (mixL L M (k + 1) = mixL L M k) := hsm hlm
          clear hs hsm c1 c2
          go_wp2
          refine wp_region_flow (Keep [] wr) rfl (by kernel_rfl) (Keep.refl _ _).drew ?_
          repeat (refine fl_val (v := ?_) (by rfl) ?_ ?_; rotate_left; (intro w' hS; obtain ⟨f1,f2⟩ := hF w' hS; go_simp; with_reducible rfl); simp only [Act.put, List.setIfInBounds_toArray, List.set_cons_zero, List.set_cons_succ])
          refine fl_nil ?_
          intro wS hS
          have HB3 := Lib.hid (HB2.out.keep0 hS)
          have HKS := Lib.hid (HK.out.then hS)
          clear hF hS
          go_wp2
          go_roundw
          case rel => exact ⟨k + 1, by omega, by go_num, by rw [HS.out]; exact HB3.out, HKS.out⟩
          case measure => simp [intOf] <;> omega
      · obtain rfl : k = 16 := by omega
        simp only [show ((16 : Nat) : Int) = 16 from rfl]
        generalize mixL L M 16 = N at *
        have hNl := HNO.out.1
        have HON : Hid ((iv N).length = 16) := by show _ = _; rw [iv_len]; exact hNl
        have HKZ := Lib.hid (HKW.out _ hK)
        have HIZ : Hid (∀ w', Keep [] wr w' → w'.cell? ⟨w.heap.size, 1, none⟩ = some (.slice v.ta x.tasks.length v.tc) ∧ w'.cell? ⟨w.heap.size, 3, none⟩ = some (.slice v.ea x.edges.length v.ec)) := fun w' hk' => HI1.out w' (hK.then hk')
        have HCI : Hid (∀ w', Keep [] wr w' → CellsAt w' w.heap.size 0 il) := fun w' hk' => HC0.out w' (hK.then hk')
        have HCL : Hid (∀ w', Keep [] wr w' → CellsAt w' (w.heap.size + 1) 0 lc) := fun w' hk' => HC1.out w' (hK.then hk')
        have HCN : Hid (∀ w', Keep [] wr w' → CellsAt w' (w.heap.size + 2) 0 (iv N)) := fun w' hk' => (hb2.keep0 hk').cellsAt
        clear HI1 HC0 HC1 hb2 hK HMX HMC B1 B2 HKW hKW HM HK15
        generalize hnc : iv N = nc at *
        have HNC := Lib.hid hnc
        clear hnc
        go_wp2
        generalize wr = wz at *
        go_loopw [8] (fun i wr => ∃ m : Nat, m ≤ x.edges.length ∧ i = .int .i64 m ∧ Keep [] wz wr) (fun i _ => x.edges.length - (intOf i).toNat)
        case atStart => exact ⟨0, Nat.zero_le _, rfl, Keep.refl _ _⟩
        case round =>
          obtain ⟨m, hm, rfl, hKm⟩ := hrel
          obtain ⟨d1, d3⟩ := HIZ.out wr hKm
          have hle63 := hle63
          by_cases hlt : m < x.edges.length
          · obtain ⟨f, t, hE, hf, ht, hcE, hTE, hi1, hi2⟩ := HED.out m hlt
            have hcok := clsOf_ok hf ht
            have hT8 : (ceilOf x.tasks (f ||| t)).length = 8 := ceilIn_len _ _
            have hw1 : InW x.tasks.length (clsOf f t).both := by rw [clsOf_both hf ht]; exact hi1
            have hw2 : InW x.tasks.length (clsOf f t).to := by rw [clsOf_to hf ht]; exact hi2
            have HNA := fun w' (hk' : Keep [] wz w') => HNW m hlt L HL.out w' (HKZ.out.then hk')
            have HNB := fun w' (hk' : Keep [] wz w') => HNW m hlt N HNO.out.1 w' (HKZ.out.then hk')
            rw [hcE, hTE] at HNA HNB
            have HWA := fun (i : Int) w' (hk' : Keep [] wz w') => HWN _ _ L hcok hT8 HLO.out hw1 i w' (HKZ.out.then hk')
            have HWB := fun (i : Int) w' (hk' : Keep [] wz w') => HWN _ _ N hcok hT8 HNO.out hw1 i w' (HKZ.out.then hk')
            have HLA := fun w' (hk' : Keep [] wz w') => HLH _ _ L hcok hT8 HLO.out hw1 hw2 w' (HKZ.out.then hk')
            have HLB := fun w' (hk' : Keep [] wz w') => HLH _ _ N hcok hT8 HNO.out hw1 hw2 w' (HKZ.out.then hk')
            have HSW : Hid (∀ (i : Nat) (n : Int), winM x (clsOf f t) (ceilOf x.tasks (f ||| t)) L (i : Int) = some n → ∃ q, winM x (clsOf f t) (ceilOf x.tasks (f ||| t)) N (i : Int) = some q ∧ q ≤ n) := fun i n hn => by
              rw [win_same HX.out hf ht HLO.out] at hn
              rw [win_same HX.out hf ht HNO.out]
              exact winR_shrinks HX.out hf ht HLO.out HNO.out HLE.out i 0 hn
            have HSL : Hid ((lateL x (clsOf f t) (ceilOf x.tasks (f ||| t)) N).length ≤ (lateL x (clsOf f t) (ceilOf x.tasks (f ||| t)) L).length) := by
              show _ ≤ _
              rw [lateL_same HX.out hf ht hi1 HLO.out, lateL_same HX.out hf ht hi1 HNO.out]
              exact lateRL_shrinks HX.out hf ht HLO.out HNO.out HLE.out _
            have HS_sa : Hid ((shCells v x (clsOf f t) (ceilOf x.tasks (f ||| t)) L).length = 31) := shCells_len v x _ hT8 HL.out
            have HS_sb : Hid ((shCells v x (clsOf f t) (ceilOf x.tasks (f ||| t)) N).length = 31) := shCells_len v x _ hT8 HNO.out.1
            have hoA : Hid (∀ u ∈ shCells v x (clsOf f t) (ceilOf x.tasks (f ||| t)) L, u.oneCell' = true) := shCells_one _ _ _ _ _
            have hoB : Hid (∀ u ∈ shCells v x (clsOf f t) (ceilOf x.tasks (f ||| t)) N, u.oneCell' = true) := shCells_one _ _ _ _ _
            have p0 : (0 : Int) ≤ (m : Int) := by omega
            have p1 : (m : Int) < (x.edges.length : Int) := by omega
            have p2 : decide ((m : Int) < (x.edges.length : Int)) = true := decide_eq_true p1
            rw [HLC.out] at HNA
            rw [HNC.out] at HNB
            have hcI := Lib.hid (HCI.out wr hKm)
            have hcL := Lib.hid (HCL.out wr hKm)
            have HNAm := HNA wr hKm
            have HKm := Lib.hid hKm
            clear HNW HWN HLH HED hE hcE hTE hi1 hi2 hcok hT8 hw1 hw2 HNA hKm
            generalize hsA : shCells v x (clsOf f t) (ceilOf x.tasks (f ||| t)) L = sa at *
            generalize hsB : shCells v x (clsOf f t) (ceilOf x.tasks (f ||| t)) N = sb at *
            generalize hwA : winM x (clsOf f t) (ceilOf x.tasks (f ||| t)) L = wA at *
            generalize hwB : winM x (clsOf f t) (ceilOf x.tasks (f ||| t)) N = wB at *
            generalize hlA : lateL x (clsOf f t) (ceilOf x.tasks (f ||| t)) L = lA at *
            generalize hlB : lateL x (clsOf f t) (ceilOf x.tasks (f ||| t)) N = lB at *
            clear hsA hsB hwA hwB hlA hlB
            go_wp2_with (first
              | (refine wpList_load_agg rfl 26 (.tmp 3) rfl rfl (cs := il) (by rw [HIC.out]; exact agg_image) hcI.out ?_)
              | (refine wpList_load_agg rfl 27 (.tmp 4) rfl rfl (cs := lc) (by rw [HOC.out]; exact agg_offs) hcL.out ?_))
            refine HNAm.out.mono ?_
            rintro e w5 ⟨rfl, k5⟩
            have HK5 := Lib.hid (HKm.out.then k5)
            clear k5 HNAm hcI hcL
            go_wp2_with (refine stop_store 37 (.tmp 9) (.tmp 63) rfl ?_)
            constructor
            refine wpList_store_all rfl 37 (.tmp 9) (.tmp 63) rfl rfl rfl (vs := sa) (by rw [HS_sa.out]; exact agg_shift.2) (Blk.new _ _ _) hoA.out ?_ ?_
            · rw [HS_sa.out]; rfl
            intro w6 d6 k6
            have k56 : Keep [] w5 w6 := ((Keep.refl [] w5).alloc _).trans k6 (fun y hy hlt => by simp at hy; omega)
            have HK6 := Lib.hid (HK5.out.then k56)
            have HD6 := Lib.hid d6
            have hcI := Lib.hid (HCI.out w6 HK6.out)
            have hcN := Lib.hid (HCN.out w6 HK6.out)
            have HNBm := HNB w6 HK6.out
            clear k6 k56 d6
            go_wp2_with (first
              | (refine wpList_load_agg rfl 26 (.tmp 3) rfl rfl (cs := il) (by rw [HIC.out]; exact agg_image) hcI.out ?_)
              | (refine wpList_load_agg rfl 27 (.tmp 5) rfl rfl (cs := nc) (by rw [HON.out]; exact agg_offs) hcN.out ?_))
            refine HNBm.out.mono ?_
            rintro e w7 ⟨rfl, k7⟩
            have HK7 := Lib.hid (HK6.out.then k7)
            have HD7 := Lib.hid (HD6.out.keep0 k7)
            clear k7 HNBm HNB hcI hcN
            go_wp2_with (refine stop_store 37 (.tmp 11) (.tmp 70) rfl ?_)
            constructor
            refine wpList_store_all rfl 37 (.tmp 11) (.tmp 70) rfl rfl rfl (vs := sb) (by rw [HS_sb.out]; exact agg_shift.2) (Blk.new _ _ _) hoB.out ?_ ?_
            · rw [HS_sb.out]; rfl
            intro w8 d8 k8
            have k78 : Keep [] w7 w8 := ((Keep.refl [] w7).alloc _).trans k8 (fun y hy hlt => by simp at hy; omega)
            have HK8 := Lib.hid (HK7.out.then k78)
            have HDA := Lib.hid (HD7.out.keep0 k78)
            have HDB := Lib.hid d8
            have HcA : Hid (∀ w', Keep [] w8 w' → CellsAt w' w5.heap.size 0 sa) := fun w' hk' => (HDA.out.keep0 hk').cellsAt
            have HcB : Hid (∀ w', Keep [] w8 w' → CellsAt w' w7.heap.size 0 sb) := fun w' hk' => (HDB.out.keep0 hk').cellsAt
            clear k8 k78 d8 d1 d3
            go_wp2
            clear p0 p1 p2
            go_loopw [13] (fun i wr => ∃ q : Nat, q ≤ x.tasks.length ∧ i = .int .i64 q ∧ Keep [] w8 wr) (fun i _ => x.tasks.length - (intOf i).toNat)
            case atStart => exact ⟨0, Nat.zero_le _, rfl, Keep.refl _ _⟩
            case round =>
              obtain ⟨q, hq, rfl, hKq⟩ := hrel
              obtain ⟨d1, d3⟩ := HIZ.out wr (HK8.out.then hKq)
              have hn16 := HN.out
              by_cases hqt : q < x.tasks.length
              · have p0 : (0 : Int) ≤ (q : Int) := by omega
                have p1 : (q : Int) < (x.tasks.length : Int) := by omega
                have p2 : decide ((q : Int) < (x.tasks.length : Int)) = true := decide_eq_true p1
                have HWAq := HWA (q : Int) wr (HK8.out.then hKq)
                have HWBq := fun w' (hk' : Keep [] wr w') => HWB (q : Int) w' (HK8.out.then (hKq.then hk'))
                have hsw := HSW.out q
                have hcA := Lib.hid (HcA.out wr hKq)
                have HcBq := fun w' (hk' : Keep [] wr w') => HcB.out w' (hKq.then hk')
                have HKq := Lib.hid hKq
                clear hKq d3
                have hcases : (∃ a z y, numRes (wA (q : Int)) = .tuple #[.int .i64 z, .bool false] ∧ numRes (wB (q : Int)) = .tuple #[.int .i64 y, .bool a]) ∨ (∃ z y : Int, numRes (wA (q : Int)) = .tuple #[.int .i64 z, .bool true] ∧ numRes (wB (q : Int)) = .tuple #[.int .i64 y, .bool true] ∧ y ≤ z) := by
                  cases e : wA (q : Int) with
                  | none => exact .inl ⟨(wB (q : Int)).isSome, 0, (wB (q : Int)).getD 0, numRes_none, numRes_eq _⟩
                  | some z =>
                    obtain ⟨y, hy, hyz⟩ := hsw z e
                    exact .inr ⟨z, y, numRes_some _, by rw [hy]; exact numRes_some _, hyz⟩
                clear hsw
                rcases hcases with ⟨a, z, y, hA, hB⟩ | ⟨z, y, hA, hB, hyz⟩
                · rw [hA] at HWAq
                  rw [hB] at HWBq
                  clear hA hB
                  go_wp2_with (refine wpList_load_agg rfl 37 (.tmp 9) rfl rfl (cs := sa) (by rw [HS_sa.out]; exact agg_shift) hcA.out ?_)
                  refine HWAq.out.mono ?_
                  rintro e w9 ⟨rfl, k9⟩
                  have hcB := Lib.hid (HcBq w9 k9)
                  go_wp2_with (refine wpList_load_agg rfl 37 (.tmp 11) rfl rfl (cs := sb) (by rw [HS_sb.out]; exact agg_shift) hcB.out ?_)
                  refine (HWBq _ k9).out.mono ?_
                  rintro e w10 ⟨rfl, k10⟩
                  have HKE := Lib.hid (HKq.out.then (k9.then k10))
                  clear k9 k10
                  go_wp2
                  go_roundw
                  case rel => exact ⟨q + 1, by omega, by go_num, HKE.out⟩
                  case measure => simp [intOf] <;> omega
                · rw [hA] at HWAq
                  rw [hB] at HWBq
                  have hdz : decide (z < y) = false := decide_eq_false (by omega)
                  clear hA hB
                  go_wp2_with (refine wpList_load_agg rfl 37 (.tmp 9) rfl rfl (cs := sa) (by rw [HS_sa.out]; exact agg_shift) hcA.out ?_)
                  refine HWAq.out.mono ?_
                  rintro e w9 ⟨rfl, k9⟩
                  have hcB := Lib.hid (HcBq w9 k9)
                  go_wp2_with (refine wpList_load_agg rfl 37 (.tmp 11) rfl rfl (cs := sb) (by rw [HS_sb.out]; exact agg_shift) hcB.out ?_)
                  refine (HWBq _ k9).out.mono ?_
                  rintro e w10 ⟨rfl, k10⟩
                  have HKE := Lib.hid (HKq.out.then (k9.then k10))
                  clear k9 k10
                  go_wp2
                  go_roundw
                  case rel => exact ⟨q + 1, by omega, by go_num, HKE.out⟩
                  case measure => simp [intOf] <;> omega
              · obtain rfl : q = x.tasks.length := by omega
                have p2 : decide ((x.tasks.length : Int) < (x.tasks.length : Int)) = false := by simp
                have hll := HSL.out
                have hdz : decide ((lA.length : Int) < (lB.length : Int)) = false := decide_eq_false (by omega)
                have HLBq := fun w' (hk' : Keep [] wr w') => HLB w' (HK8.out.then (hKq.then hk'))
                have HLAq := fun w' (hk' : Keep [] wr w') => HLA w' (HK8.out.then (hKq.then hk'))
                have HcAq := fun w' (hk' : Keep [] wr w') => HcA.out w' (hKq.then hk')
                have HcBq := fun w' (hk' : Keep [] wr w') => HcB.out w' (hKq.then hk')
                have HKq := Lib.hid hKq
                clear hKq d3
                go_wp2
                refine ap_begin 6 (Keep [] wr) rfl (Keep.refl _ _).drew (fun hS hPan => ?_) (fun _ _ d _ _ h => by cases d <;> exact h)
                refine ap_agg 0 37 (.tmp 11) sb rfl (by kernel_rfl) (by kernel_rfl) (by kernel_rfl) (by kernel_rfl) (by rfl) hPan rfl rfl (by rw [HS_sb.out]; exact agg_shift) HcBq hS ?_
                (simp only [Act.put, List.setIfInBounds_toArray, List.set_cons_zero, List.set_cons_succ])
                refine ap_agg 3 37 (.tmp 9) sa rfl (by kernel_rfl) (by kernel_rfl) (by kernel_rfl) (by kernel_rfl) (by rfl) hPan rfl rfl (by rw [HS_sa.out]; exact agg_shift) HcAq hS ?_
                (simp only [Act.put, List.setIfInBounds_toArray, List.set_cons_zero, List.set_cons_succ])
                refine ap_one 1 (by kernel_rfl) ?_
                refine op_call (f := 17) (vs := #[.agg sb.toArray]) 1 rfl (by rfl) rfl (by simp only [List.map_toArray, List.map_cons, List.map_nil]; rfl) Tryd.func17 (by kernel_rfl) (by kernel_rfl) (HLBq _ hS).out ?_
                rintro e w9 ⟨A1, c1, rfl, _, k9⟩
                replace hS := hS.then k9
                refine ⟨_, rfl, fun _ => hS, ?_⟩
                clear k9
                (simp only [Act.put, List.setIfInBounds_toArray, List.set_cons_zero, List.set_cons_succ])
                (refine ap_val (v := ?_) 2 rfl (by kernel_rfl) (by kernel_rfl) (by kernel_rfl) (by kernel_rfl) (by rfl) hPan ?_ hS ?_; rotate_left; (intro w' hSw; go_simp; try with_reducible rfl); simp only [Act.put, List.setIfInBounds_toArray, List.set_cons_zero, List.set_cons_succ])
                refine ap_one 4 (by kernel_rfl) ?_
                refine op_call (f := 17) (vs := #[.agg sa.toArray]) 4 rfl (by rfl) rfl (by simp only [List.map_toArray, List.map_cons, List.map_nil]; rfl) Tryd.func17 (by kernel_rfl) (by kernel_rfl) (HLAq _ hS).out ?_
                rintro e w10 ⟨A2, c2, rfl, _, k10⟩
                replace hS := hS.then k10
                refine ⟨_, rfl, fun _ => hS, ?_⟩
                clear k10
                (simp only [Act.put, List.setIfInBounds_toArray, List.set_cons_zero, List.set_cons_succ])
                (refine ap_val (v := ?_) 5 rfl (by kernel_rfl) (by kernel_rfl) (by kernel_rfl) (by kernel_rfl) (by rfl) hPan ?_ hS ?_; rotate_left; (intro w' hSw; go_simp; try with_reducible rfl); simp only [Act.put, List.setIfInBounds_toArray, List.set_cons_zero, List.set_cons_succ])
                refine ap_one 6 (by kernel_rfl) ?_
                refine op_run (v := .bool (decide ((lA.length : Int) < (lB.length : Int)))) (w' := w10) 6 rfl (by rfl) (by go_simp) ?_
                refine ⟨fun _ => hS, ap_done (by kernel_rfl) ?_ _⟩
                (simp only [Act.put, List.setIfInBounds_toArray, List.set_cons_zero, List.set_cons_succ])
                rw [hdz]
                have HKE := Lib.hid (HK8.out.then (HKq.out.then hS))
                clear hS hPan
                go_wp2
                go_roundw
                case rel => exact ⟨m + 1, by omega, by go_num, HKE.out⟩
                case measure => simp [intOf] <;> omega
          · obtain rfl : m = x.edges.length := by omega
            have p2 : decide ((x.edges.length : Int) < (x.edges.length : Int)) = false := by simp
            have HALm := HAl wr (HKZ.out.then hKm)
            have HKm := Lib.hid (HKZ.out.then hKm)
            clear hKm
            go_wp2_with fail
            refine HALm.out.mono ?_
            rintro e wl ⟨rfl, kl⟩
            go_wp2
            go_ret
            exact ⟨rfl, HKm.out.then kl⟩
end Go.Proofs.YtggjhjbcdnffnaaDoor
