/- WindowTells: the law's walk. Condition: the table of math/bits lies where the program's text lays it. -/
import Derived.Test.YtggjhjbcdnffnaaDoorLaw19P
namespace Go.Proofs.YtggjhjbcdnffnaaDoor
open Go.RowKit

set_option maxRecDepth 100000 in
set_option maxHeartbeats 4000000 in
theorem windowTells_any (v : ImgV) (x : Img) (edge : Int) (L : List Int) (w : World) (hTb : Tab w) (h : ImgAt w v x) (hL : L.length = 16) :
    Calls Tryd.prog 3 #[.agg (imgCells v x).toArray, .int .i64 edge, .agg (iv L).toArray] w fun e w' => e = .returned (.bool true) ∧ Keep [] w w' := by
  obtain ⟨W0, hW0⟩ : ∃ W0, (w.alloc (.cells (imgCells v x).toArray 26)).alloc (.cells (iv L).toArray 27) = W0 := ⟨_, rfl⟩
  have b0 : Blk W0 w.heap.size 26 (imgCells v x).toArray := by rw [← hW0]; exact (img_box w v x).alloc _
  have b1 : Blk W0 (w.heap.size + 1) 27 (iv L).toArray := by rw [← hW0]; exact Blk.new1 _ _ _ _
  have K0 : Keep [] w W0 := by rw [← hW0]; exact ((Keep.refl [] w).alloc _).alloc _
  have HC0 : Hid (∀ w', Keep [] W0 w' → CellsAt w' w.heap.size 0 (imgCells v x)) := fun w' hk => (b0.keep0 hk).cellsAt
  have HC1 : Hid (∀ w', Keep [] W0 w' → CellsAt w' (w.heap.size + 1) 0 (iv L)) := fun w' hk => (b1.keep0 hk).cellsAt
  have HI1 : Hid (∀ w', Keep [] W0 w' → w'.cell? ⟨w.heap.size, 1, none⟩ = some (.slice v.ta x.tasks.length v.tc) ∧ w'.cell? ⟨w.heap.size, 3, none⟩ = some (.slice v.ea x.edges.length v.ec)) := fun w' hk => ⟨img_c1 (b0.keep0 hk), by rw [(b0.keep0 hk).cell]; rfl⟩
  have HIC : Hid ((imgCells v x).length = 4) := show _ = _ from rfl
  have HOC : Hid ((iv L).length = 16) := by show _ = _; rw [iv_len]; exact hL
  have HFe := Lib.hid (few_any v x W0 (h.keep0 K0))
  have HO1 := fun w' => Lib.hid (offs19_any L w' hL)
  have HAl := fun w' hk => Lib.hid (alive19 w' (hTb.keep0 (w' := w') hk))
  have HKW0 := Lib.hid K0
  have HW := Lib.hid hW0
  clear hW0 b0 b1
  cases hfe : fewB x with
  | false =>
    rw [hfe] at HFe
    clear h HO1 HAl hTb
    generalize imgCells v x = il at *
    go_enter Tryd.func3, Tryd.ntmps3
    go_wp2_with (first
      | rw [HW.out]
      | (refine wpList_load_agg rfl 26 (.tmp 3) rfl rfl (cs := il) (by rw [HIC.out]; exact agg_image) (HC0.out _ (Keep.refl _ _)) ?_))
    refine HFe.out.mono ?_
    rintro e w2 ⟨rfl, k2⟩
    go_wp2
    go_ret
    exact ⟨rfl, K0.then k2⟩
  | true =>
  rw [hfe] at HFe
  cases hl : offsB L with
  | false =>
    rw [hl] at HO1
    clear h HAl hTb
    generalize imgCells v x = il at *
    generalize iv L = lc at *
    go_enter Tryd.func3, Tryd.ntmps3
    go_wp2_with (first
      | rw [HW.out]
      | (refine wpList_load_agg rfl 26 (.tmp 3) rfl rfl (cs := il) (by rw [HIC.out]; exact agg_image) (HC0.out _ (Keep.refl _ _)) ?_))
    refine HFe.out.mono ?_
    rintro e w2 ⟨rfl, k2⟩
    have hc2 := Lib.hid (HC1.out w2 k2)
    go_wp2_with (refine wpList_agg_gd rfl 27 (.tmp 5) rfl rfl (cs := lc) (by rw [HOC.out]; exact agg_offs) hc2.out ?_)
    refine (HO1 _).out.mono ?_
    rintro e w3 ⟨rfl, k3⟩
    have k13 := k2.then k3
    go_wp2
    go_ret
    exact ⟨rfl, K0.then k13⟩
  | true =>
  rw [hl] at HO1
  have hx0 : (chkImg x).2 = 0 := by
    unfold fewB at hfe
    simp only [Bool.and_eq_true] at hfe
    simpa using hfe.2.1
  have hle63 := h.le
  unfold maxLen at hle63
  by_cases hedge : edge < 0 ∨ (x.edges.length : Int) ≤ edge
  · have HNW := fun w' hk' => Lib.hid (new_out v x edge L w' (h.keep0 hk') hedge)
    clear h hTb hx0 hfe hl
    generalize imgCells v x = il at *
    generalize iv L = lc at *
    go_enter Tryd.func3, Tryd.ntmps3
    go_wp2_with (first
      | rw [HW.out]
      | (refine wpList_load_agg rfl 26 (.tmp 3) rfl rfl (cs := il) (by rw [HIC.out]; exact agg_image) (HC0.out _ (Keep.refl _ _)) ?_))
    refine HFe.out.mono ?_
    rintro e w2 ⟨rfl, k2⟩
    have hc2 := Lib.hid (HC1.out w2 k2)
    go_wp2_with (refine wpList_agg_gd rfl 27 (.tmp 5) rfl rfl (cs := lc) (by rw [HOC.out]; exact agg_offs) hc2.out ?_)
    refine (HO1 _).out.mono ?_
    rintro e w3 ⟨rfl, k3⟩
    have k13 := k2.then k3
    have hcI := Lib.hid (HC0.out w3 k13)
    have hcL := Lib.hid (HC1.out w3 k13)
    clear hc2
    go_wp2_with (first
      | (refine wpList_load_agg rfl 26 (.tmp 3) rfl rfl (cs := il) (by rw [HIC.out]; exact agg_image) hcI.out ?_)
      | (refine wpList_load_agg rfl 27 (.tmp 5) rfl rfl (cs := lc) (by rw [HOC.out]; exact agg_offs) hcL.out ?_))
    refine (HNW _ (K0.then k13)).out.mono ?_
    rintro e w5 ⟨rfl, k5⟩
    have HK5 := Lib.hid (k13.then k5)
    clear k2 k3 k13 k5 hcI hcL HNW
    go_wp2_with (refine stop_store 37 (.tmp 7) (.tmp 39) rfl ?_)
    constructor
    refine wpList_store_all rfl 37 (.tmp 7) (.tmp 39) rfl rfl rfl (vs := shZero) (by kernel_rfl) (Blk.new _ _ _) shZero_one ?_ ?_
    · rfl
    intro w6 d6 k6
    have k56 : Keep [] w5 w6 := ((Keep.refl [] w5).alloc _).trans k6 (fun y hy hlt => by simp at hy; omega)
    have HK6 := Lib.hid (HK5.out.then k56)
    obtain ⟨d1, d3⟩ := HI1.out w6 HK6.out
    have HALm := HAl w6 (K0.then HK6.out)
    clear k6 k56 d6
    rcases hedge with he | he
    · have p0 : decide (edge < 0) = true := decide_eq_true he
      go_wp2_with fail
      refine HALm.out.mono ?_
      rintro e wl ⟨rfl, kl⟩
      go_wp2
      go_ret
      exact ⟨rfl, (K0.then HK6.out).then kl⟩
    · have p0 : decide (edge < 0) = false := decide_eq_false (by omega)
      have p1 : decide ((x.edges.length : Int) ≤ edge) = true := decide_eq_true he
      go_wp2_with fail
      refine HALm.out.mono ?_
      rintro e wl ⟨rfl, kl⟩
      go_wp2
      go_ret
      exact ⟨rfl, (K0.then HK6.out).then kl⟩
  · obtain ⟨k, rfl⟩ : ∃ k : Nat, edge = (k : Int) := ⟨edge.toNat, by omega⟩
    have hk : k < x.edges.length := by omega
    have hx := small_of hx0
    have hLo := offsB_ok hL hl
    obtain ⟨f, t, hE, hf, ht, hcE, hTE, hi1, hi2⟩ := edge_w hx0 h.ok k hk
    have hcok := clsOf_ok hf ht
    have hT8 : (ceilOf x.tasks (f ||| t)).length = 8 := ceilIn_len _ _
    have hw1 : InW x.tasks.length (clsOf f t).both := by rw [clsOf_both hf ht]; exact hi1
    have hw2 : InW x.tasks.length (clsOf f t).to := by rw [clsOf_to hf ht]; exact hi2
    have hn := hx.n
    have HNW := fun w' hk' => Lib.hid (new_in v x k L w' (hTb.keep0 (w' := w') hk') (h.keep0 hk') hk hL)
    rw [hcE, hTE] at HNW
    have HWN := fun (i : Int) w' hk' => Lib.hid (win_any v x (clsOf f t) (ceilOf x.tasks (f ||| t)) L i w' (hTb.keep0 (w' := w') hk') (h.keep0 hk') hcok hT8 hLo hx hw1)
    have HBN := fun (i : Int) w' hk' => Lib.hid (beh_any v x (clsOf f t) (ceilOf x.tasks (f ||| t)) L i w' (hTb.keep0 (w' := w') hk') (h.keep0 hk') hcok hT8 hLo.1 hx hw2)
    have HLH := fun w' hk' => Lib.hid (lateHelp_any v x (clsOf f t) (ceilOf x.tasks (f ||| t)) L w' (hTb.keep0 (w' := w') hk') (h.keep0 hk') hcok hT8 hLo hx hw1 hw2)
    have HSN := fun w' hk' => Lib.hid (span_any v x (clsOf f t) (ceilOf x.tasks (f ||| t)) L w' (hTb.keep0 (w' := w') hk') (h.keep0 hk') hcok hT8 hLo hx hw1 hw2)
    have HRW := fun (i : Nat) hi w' hk' => Lib.hid (rwin_any v x k f t L i w' (h.keep0 hk') hE hx hLo hi)
    have HRB := fun (i : Nat) hi w' hk' => Lib.hid (rbeh_any v x k f t i w' (h.keep0 hk') hE hx hi)
    have HRL := fun w' hk' => Lib.hid (rlate_any v x k f t L w' (h.keep0 hk') hE hx hLo)
    have HRS := fun w' hk' => Lib.hid (rspan_any v x k f t L w' (h.keep0 hk') hE hx hLo)
    rw [lateL_same hx hf ht hi1 hLo] at HLH
    rw [span_same hx hf ht hi1 hLo] at HSN
    have hll := lateRL_le x f t L x.tasks.length
    have HWS : Hid (∀ i : Nat, winM x (clsOf f t) (ceilOf x.tasks (f ||| t)) L (i : Int) = winR x f t L i) := fun i => win_same hx hf ht hLo i
    have HBS : Hid (∀ i : Nat, behM x (clsOf f t) (ceilOf x.tasks (f ||| t)) (i : Int) = behR x f t i) := fun i => beh_same hx hf ht i
    have HOUT : Hid (∀ z : Int, (z < 0 ∨ (x.tasks.length : Int) ≤ z) → numRes (winM x (clsOf f t) (ceilOf x.tasks (f ||| t)) L z) = .tuple #[.int .i64 0, .bool false] ∧ numRes (behM x (clsOf f t) (ceilOf x.tasks (f ||| t)) z) = .tuple #[.int .i64 0, .bool false]) := fun z hz => by
      have key : ∀ s : Nat, InW x.tasks.length s → has10 s z = false := fun s hs => by
        unfold has10
        by_cases hz0 : 0 ≤ z
        · have := hs z.toNat (by omega)
          rw [this]; simp
        · rw [decide_eq_false hz0]; rfl
      unfold winM behM
      rw [key _ hw1, key _ hw2]
      exact ⟨rfl, rfl⟩
    have HS_sa : Hid ((shCells v x (clsOf f t) (ceilOf x.tasks (f ||| t)) L).length = 31) := shCells_len v x _ hT8 hL
    have hoA : Hid (∀ u ∈ shCells v x (clsOf f t) (ceilOf x.tasks (f ||| t)) L, u.oneCell' = true) := shCells_one _ _ _ _ _
    have HN := Lib.hid hn
    have q0 : decide ((k : Int) < 0) = false := decide_eq_false (by omega)
    have q1 : decide ((x.edges.length : Int) ≤ (k : Int)) = false := decide_eq_false (by omega)
    have q1n : decide (x.edges.length ≤ k) = false := decide_eq_false (by omega)
    have q2 : (0 : Int) ≤ (k : Int) := by omega
    have q3 : (k : Int) < (x.edges.length : Int) := by omega
    clear h hTb hx hx0 hLo hfe hl hL hE hf ht hcE hTE hi1 hi2 hcok hT8 hw1 hw2 hedge
    generalize imgCells v x = il at *
    generalize iv L = lc at *
    generalize hsA : shCells v x (clsOf f t) (ceilOf x.tasks (f ||| t)) L = sa at *
    generalize hwA : winM x (clsOf f t) (ceilOf x.tasks (f ||| t)) L = wA at *
    generalize hwB : behM x (clsOf f t) (ceilOf x.tasks (f ||| t)) = wB at *
    clear hsA hwA hwB
    go_enter Tryd.func3, Tryd.ntmps3
    go_wp2_with (first
      | rw [HW.out]
      | (refine wpList_load_agg rfl 26 (.tmp 3) rfl rfl (cs := il) (by rw [HIC.out]; exact agg_image) (HC0.out _ (Keep.refl _ _)) ?_))
    refine HFe.out.mono ?_
    rintro e w2 ⟨rfl, k2⟩
    have hc2 := Lib.hid (HC1.out w2 k2)
    go_wp2_with (refine wpList_agg_gd rfl 27 (.tmp 5) rfl rfl (cs := lc) (by rw [HOC.out]; exact agg_offs) hc2.out ?_)
    refine (HO1 _).out.mono ?_
    rintro e w3 ⟨rfl, k3⟩
    have k13 := k2.then k3
    have hcI := Lib.hid (HC0.out w3 k13)
    have hcL := Lib.hid (HC1.out w3 k13)
    clear hc2
    go_wp2_with (first
      | (refine wpList_load_agg rfl 26 (.tmp 3) rfl rfl (cs := il) (by rw [HIC.out]; exact agg_image) hcI.out ?_)
      | (refine wpList_load_agg rfl 27 (.tmp 5) rfl rfl (cs := lc) (by rw [HOC.out]; exact agg_offs) hcL.out ?_))
    refine (HNW _ (K0.then k13)).out.mono ?_
    rintro e w5 ⟨rfl, k5⟩
    have HK5 := Lib.hid (k13.then k5)
    clear k2 k3 k13 k5 hcI hcL HNW
    go_wp2_with (refine stop_store 37 (.tmp 7) (.tmp 39) rfl ?_)
    constructor
    refine wpList_store_all rfl 37 (.tmp 7) (.tmp 39) rfl rfl rfl (vs := sa) (by rw [HS_sa.out]; exact agg_shift.2) (Blk.new _ _ _) hoA.out ?_ ?_
    · rw [HS_sa.out]; rfl
    intro w6 d6 k6
    have k56 : Keep [] w5 w6 := ((Keep.refl [] w5).alloc _).trans k6 (fun y hy hlt => by simp at hy; omega)
    have HK6 := Lib.hid (HK5.out.then k56)
    have HKW := Lib.hid (K0.then HK6.out)
    obtain ⟨d1, d3⟩ := HI1.out w6 HK6.out
    have HIZ : Hid (∀ w', Keep [] w6 w' → w'.cell? ⟨w.heap.size, 1, none⟩ = some (.slice v.ta x.tasks.length v.tc)) := fun w' hk' => (HI1.out w' (HK6.out.then hk')).1
    have HCI : Hid (∀ w', Keep [] w6 w' → CellsAt w' w.heap.size 0 il) := fun w' hk' => HC0.out w' (HK6.out.then hk')
    have HCL : Hid (∀ w', Keep [] w6 w' → CellsAt w' (w.heap.size + 1) 0 lc) := fun w' hk' => HC1.out w' (HK6.out.then hk')
    have HD6 := Lib.hid d6
    have HCA : Hid (∀ w', Keep [] w6 w' → CellsAt w' w5.heap.size 0 sa) := fun w' hk' => (HD6.out.keep0 hk').cellsAt
    clear k6 k56 d6 HFe HO1 HI1 HC0 HC1 HK5 HK6 HD6 d1 K0 HKW0
    go_wp2
    clear d3 q0 q1 q1n
    go_loopw [9] (fun i wr => ∃ z : Int, -1 ≤ z ∧ z ≤ x.tasks.length + 1 ∧ i = .int .i64 z ∧ Keep [] w6 wr) (fun i _ => (x.tasks.length + 1 - intOf i).toNat)
    case atStart => exact ⟨-1, by omega, by omega, rfl, Keep.refl _ _⟩
    case round =>
      obtain ⟨z, hz1, hz2, rfl, hK⟩ := hrel
      have d1 := HIZ.out wr hK
      have hcA := Lib.hid (HCA.out wr hK)
      have HA := fun w' (hk' : Keep [] wr w') => HCA.out w' (hK.then hk')
      have HIq := fun w' (hk' : Keep [] wr w') => HCI.out w' (hK.then hk')
      have HLq := fun w' (hk' : Keep [] wr w') => HCL.out w' (hK.then hk')
      have HIZq := fun w' (hk' : Keep [] wr w') => HIZ.out w' (hK.then hk')
      have HKw := Lib.hid (HKW.out.then hK)
      have HKq := Lib.hid hK
      have hn16 := HN.out
      clear hK
      by_cases hlt : z ≤ x.tasks.length
      · have p2 : decide (z ≤ (x.tasks.length : Int)) = true := decide_eq_true hlt
        have HWz := HWN z wr HKw.out
        have HBz := fun w' (hk' : Keep [] wr w') => HBN z w' (HKw.out.then hk')
        have hwrap : IntKind.i64.wrap (z + 1) = z + 1 := IntWalk.i64_in _ (by omega)
        by_cases hin : 0 ≤ z ∧ z < x.tasks.length
        · obtain ⟨q, rfl⟩ : ∃ q : Nat, z = (q : Int) := ⟨z.toNat, by omega⟩
          have hq : q < x.tasks.length := by omega
          have p0 : decide ((0 : Int) ≤ (q : Int)) = true := decide_eq_true (by omega)
          have p3 : decide ((q : Int) < (x.tasks.length : Int)) = true := decide_eq_true (by omega)
          have p4 : (0 : Int) ≤ (q : Int) := by omega
          have p5 : (q : Int) < (x.tasks.length : Int) := by omega
          have HRWq := fun w' (hk' : Keep [] wr w') => HRW q hq w' (HKw.out.then hk')
          have HRBq := fun w' (hk' : Keep [] wr w') => HRB q hq w' (HKw.out.then hk')
          rw [HWS.out q, numRes_eq (winR x f t L q)] at HWz
          rw [numRes_eq (winR x f t L q)] at HRWq
          rw [HBS.out q] at HBz
          rw [numRes_eq (behR x f t q)] at HRBq HBz
          clear HWN HBN HRW HRB HLH HSN HRL HRS
          generalize (winR x f t L q).getD 0 = n1 at *
          generalize (winR x f t L q).isSome = s1 at *
          generalize (behR x f t q).getD 0 = n2 at *
          generalize (behR x f t q).isSome = s2 at *
          go_wp2_with (refine wpList_load_agg rfl 37 (.tmp 7) rfl rfl (cs := sa) (by rw [HS_sa.out]; exact agg_shift) hcA.out ?_)
          refine HWz.out.mono ?_
          rintro e w7 ⟨rfl, k7⟩
          have hcA7 := Lib.hid (HA w7 k7)
          go_wp2_with (refine wpList_load_agg rfl 37 (.tmp 7) rfl rfl (cs := sa) (by rw [HS_sa.out]; exact agg_shift) hcA7.out ?_)
          refine (HBz _ k7).out.mono ?_
          rintro e w8 ⟨rfl, k8⟩
          have K8 := Lib.hid (k7.then k8)
          have d8 := HIZq w8 K8.out
          have hcI := Lib.hid (HIq w8 K8.out)
          have hcL := Lib.hid (HLq w8 K8.out)
          clear k7 k8 hcA hcA7
          go_wp2_with (first
            | (refine wpList_load_agg rfl 26 (.tmp 3) rfl rfl (cs := il) (by rw [HIC.out]; exact agg_image) hcI.out ?_)
            | (refine wpList_load_agg rfl 27 (.tmp 5) rfl rfl (cs := lc) (by rw [HOC.out]; exact agg_offs) hcL.out ?_))
          refine (HRWq _ K8.out).out.mono ?_
          rintro e w9 ⟨rfl, k9⟩
          have K9 := Lib.hid (K8.out.then k9)
          have hcI9 := Lib.hid (HIq w9 K9.out)
          clear k9 hcI hcL
          go_wp2_with (refine wpList_load_agg rfl 26 (.tmp 3) rfl rfl (cs := il) (by rw [HIC.out]; exact agg_image) hcI9.out ?_)
          refine (HRBq _ K9.out).out.mono ?_
          rintro e w10 ⟨rfl, k10⟩
          have KE := Lib.hid (HKq.out.then (K9.out.then k10))
          clear k10
          go_wp2
          go_roundw
          case rel => exact ⟨(q : Int) + 1, by omega, by omega, rfl, KE.out⟩
          case measure => simp [intOf] <;> omega
        · obtain ⟨ho1, ho2⟩ := HOUT.out z (by omega)
          rw [ho1] at HWz
          rw [ho2] at HBz
          clear ho1 ho2 HWN HBN HRW HRB HLH HSN HRL HRS
          rcases (show z < 0 ∨ (0 ≤ z ∧ (x.tasks.length : Int) ≤ z) by omega) with hzz | ⟨hzz, hzy⟩
          · have p0 : decide ((0 : Int) ≤ z) = false := decide_eq_false (by omega)
            go_wp2_with (refine wpList_load_agg rfl 37 (.tmp 7) rfl rfl (cs := sa) (by rw [HS_sa.out]; exact agg_shift) hcA.out ?_)
            refine HWz.out.mono ?_
            rintro e w7 ⟨rfl, k7⟩
            have hcA7 := Lib.hid (HA w7 k7)
            go_wp2_with (refine wpList_load_agg rfl 37 (.tmp 7) rfl rfl (cs := sa) (by rw [HS_sa.out]; exact agg_shift) hcA7.out ?_)
            refine (HBz _ k7).out.mono ?_
            rintro e w8 ⟨rfl, k8⟩
            have KE := Lib.hid (HKq.out.then (k7.then k8))
            clear k7 k8
            go_wp2
            go_roundw
            case rel => exact ⟨z + 1, by omega, by omega, rfl, KE.out⟩
            case measure => simp [intOf] <;> omega
          · have p0 : decide ((0 : Int) ≤ z) = true := decide_eq_true hzz
            have p3 : decide (z < (x.tasks.length : Int)) = false := decide_eq_false (by omega)
            go_wp2_with (refine wpList_load_agg rfl 37 (.tmp 7) rfl rfl (cs := sa) (by rw [HS_sa.out]; exact agg_shift) hcA.out ?_)
            refine HWz.out.mono ?_
            rintro e w7 ⟨rfl, k7⟩
            have hcA7 := Lib.hid (HA w7 k7)
            go_wp2_with (refine wpList_load_agg rfl 37 (.tmp 7) rfl rfl (cs := sa) (by rw [HS_sa.out]; exact agg_shift) hcA7.out ?_)
            refine (HBz _ k7).out.mono ?_
            rintro e w8 ⟨rfl, k8⟩
            have d8 := HIZq w8 (k7.then k8)
            have KE := Lib.hid (HKq.out.then (k7.then k8))
            clear k7 k8
            go_wp2
            go_roundw
            case rel => exact ⟨z + 1, by omega, by omega, rfl, KE.out⟩
            case measure => simp [intOf] <;> omega
      · have p2 : decide (z ≤ (x.tasks.length : Int)) = false := decide_eq_false hlt
        have HLHq := fun w' (hk' : Keep [] wr w') => HLH w' (HKw.out.then hk')
        have HRLq := fun w' (hk' : Keep [] wr w') => HRL w' (HKw.out.then hk')
        have HSNq := fun w' (hk' : Keep [] wr w') => HSN w' (HKw.out.then hk')
        have HRSq := fun w' (hk' : Keep [] wr w') => HRS w' (HKw.out.then hk')
        have HALq := fun w' (hk' : Keep [] wr w') => HAl w' (HKw.out.then hk')
        clear HWN HBN HRW HRB HLH HSN HRL HRS HAl hcA
        generalize lateRL x f t L x.tasks.length = ll at *
        generalize spanR x f t L = sp at *
        go_wp2
        refine ap_begin 7 (Keep [] wr) rfl (Keep.refl _ _).drew (fun hS hPan => ?_) (fun _ _ d _ _ h => by cases d <;> exact h)
        refine ap_agg 0 37 (.tmp 7) sa rfl (by kernel_rfl) (by kernel_rfl) (by kernel_rfl) (by kernel_rfl) (by rfl) hPan rfl rfl (by rw [HS_sa.out]; exact agg_shift) HA hS ?_
        (simp only [Act.put, List.setIfInBounds_toArray, List.set_cons_zero, List.set_cons_succ])
        refine ap_agg 2 26 (.tmp 3) il rfl (by kernel_rfl) (by kernel_rfl) (by kernel_rfl) (by kernel_rfl) (by rfl) hPan rfl rfl (by rw [HIC.out]; exact agg_image) HIq hS ?_
        (simp only [Act.put, List.setIfInBounds_toArray, List.set_cons_zero, List.set_cons_succ])
        (refine ap_val (v := ?_) 3 rfl (by kernel_rfl) (by kernel_rfl) (by kernel_rfl) (by kernel_rfl) (by rfl) hPan ?_ hS ?_; rotate_left; (intro w' hSw; go_simp; try with_reducible rfl); simp only [Act.put, List.setIfInBounds_toArray, List.set_cons_zero, List.set_cons_succ])
        refine ap_agg 4 27 (.tmp 5) lc rfl (by kernel_rfl) (by kernel_rfl) (by kernel_rfl) (by kernel_rfl) (by rfl) hPan rfl rfl (by rw [HOC.out]; exact agg_offs) HLq hS ?_
        (simp only [Act.put, List.setIfInBounds_toArray, List.set_cons_zero, List.set_cons_succ])
        refine ap_one 1 (by kernel_rfl) ?_
        refine op_call (f := 17) (vs := #[.agg sa.toArray]) 1 rfl (by rfl) rfl (by simp only [List.map_toArray, List.map_cons, List.map_nil]; rfl) Tryd.func17 (by kernel_rfl) (by kernel_rfl) (HLHq _ hS).out ?_
        rintro e w7 ⟨A1, c1, rfl, o1, k7⟩
        replace hS := hS.then k7
        have R1 := Reads.of_own o1
        refine ⟨_, rfl, fun _ => hS, ?_⟩
        clear k7 o1
        (simp only [Act.put, List.setIfInBounds_toArray, List.set_cons_zero, List.set_cons_succ])
        refine ap_one 5 (by kernel_rfl) ?_
        refine op_call (f := 18) (vs := #[.agg il.toArray, .int .i64 (k : Int), .agg lc.toArray]) 5 rfl (by rfl) rfl (by simp only [List.map_toArray, List.map_cons, List.map_nil]; rfl) Tryd.func18 (by kernel_rfl) (by kernel_rfl) (HRLq _ hS).out ?_
        rintro e w8 ⟨A2, c2, rfl, o2, k8⟩
        replace hS := hS.then k8
        have R2 := Reads.of_own o2
        replace R1 := R1.keep0 k8
        refine ⟨_, rfl, fun _ => hS, ?_⟩
        clear k8 o2
        (simp only [Act.put, List.setIfInBounds_toArray, List.set_cons_zero, List.set_cons_succ])
        (refine ap_val (v := ?_) 6 rfl (by kernel_rfl) (by kernel_rfl) (by kernel_rfl) (by kernel_rfl) (by rfl) hPan ?_ hS ?_; rotate_left; (intro w' hSw; go_simp; try with_reducible rfl); simp only [Act.put, List.setIfInBounds_toArray, List.set_cons_zero, List.set_cons_succ])
        refine ap_one 7 (by kernel_rfl) ?_
        refine op_run (v := .slice A2 ll.length c2) (w' := w8) 7 rfl (by rfl) (by go_simp) ?_
        refine ⟨fun _ => hS, ap_done (by kernel_rfl) ?_ _⟩
        (simp only [Act.put, List.setIfInBounds_toArray, List.set_cons_zero, List.set_cons_succ])
        have HS8 := Lib.hid hS
        have HR1 := Lib.hid R1
        have HR2 := Lib.hid R2
        clear hS hPan R1 R2 HLHq HRLq
        go_wp2
        go_loopw [20] (fun i wr2 => ∃ q : Nat, q ≤ ll.length ∧ i = .int .i64 q ∧ Keep [] w8 wr2) (fun i _ => ll.length - (intOf i).toNat)
        case atStart => exact ⟨0, Nat.zero_le _, rfl, Keep.refl _ _⟩
        case round =>
          obtain ⟨q, hq, rfl, hK2⟩ := hrel
          by_cases hqt : q < ll.length
          · have p0 : (0 : Int) ≤ (q : Int) := by omega
            have p1 : (q : Int) < (ll.length : Int) := by omega
            have p2 : decide ((q : Int) < (ll.length : Int)) = true := decide_eq_true p1
            obtain ⟨g1, o1, hA1, hg1, hc1⟩ := HR1.out.addr (by omega)
            obtain ⟨g2, o2, hA2, hg2, hc2⟩ := HR2.out.addr (by omega)
            have hnv : (natsV ll)[q]? = some (.int .i64 (ll[q] : Int)) := by unfold natsV; rw [List.getElem?_map, List.getElem?_eq_getElem hqt]; rfl
            have e1 := (hK2.cell (p := ⟨g1, o1 + q, none⟩) hg1 (by simp)).trans (hc1 q _ hnv)
            have e2 := (hK2.cell (p := ⟨g2, o2 + q, none⟩) hg2 (by simp)).trans (hc2 q _ hnv)
            have hz1' := Nat.lt_of_lt_of_le hg1 hK2.size
            have hz2' := Nat.lt_of_lt_of_le hg2 hK2.size
            have HK2 := Lib.hid hK2
            subst hA1 hA2
            clear hc1 hc2 hK2 hnv
            generalize ((ll[q] : Nat) : Int) = y at *
            have hF : ∀ w', Keep [] wr w' → w'.cell? ⟨g1, o1 + q, none⟩ = some (.int .i64 y) ∧ w'.cell? ⟨g2, o2 + q, none⟩ = some (.int .i64 y) := fun w' hk' => ⟨(hk'.cell (p := ⟨g1, o1 + q, none⟩) hz1' (by simp)).trans e1, (hk'.cell (p := ⟨g2, o2 + q, none⟩) hz2' (by simp)).trans e2⟩
            clear e1 e2
            go_wp2
            refine wp_region_flow (Keep [] wr) rfl (by kernel_rfl) (Keep.refl _ _).drew ?_
            repeat (refine fl_val (v := ?_) (by rfl) ?_ ?_; rotate_left; (intro w' hS; obtain ⟨f1,f2⟩ := hF w' hS; go_simp; with_reducible rfl); simp only [Act.put, List.setIfInBounds_toArray, List.set_cons_zero, List.set_cons_succ])
            refine fl_nil ?_
            intro wS hS
            have HKS := Lib.hid (HK2.out.then hS)
            clear hF hS
            go_wp2
            go_roundw
            case rel => exact ⟨q + 1, by omega, by go_num, HKS.out⟩
            case measure => simp [intOf] <;> omega
          · obtain rfl : q = ll.length := by omega
            have p2 : decide ((ll.length : Int) < (ll.length : Int)) = false := by simp
            have KX := Lib.hid (HS8.out.then hK2)
            have hcA := Lib.hid (HA _ KX.out)
            have HSX := HSNq _ KX.out
            rw [show spanRes sp = .tuple #[.agg #[.int .i64 (sp.getD (0, 0)).1, .int .i64 (sp.getD (0, 0)).2], .bool sp.isSome] from rfl] at HSX
            rw [show tripRes sp = .tuple #[.int .i64 (sp.getD (0, 0)).1, .int .i64 (sp.getD (0, 0)).2, .bool sp.isSome] from rfl] at HRSq
            clear hK2 HSNq HR1 HR2
            generalize (sp.getD (0, 0)).1 = a at *
            generalize (sp.getD (0, 0)).2 = b at *
            generalize sp.isSome = ss at *
            have hse := fun w => span_eql a b a b w
            have hsg := fun x y u v w => span_guard x y u v w
            go_wp2_with (refine wpList_load_agg rfl 37 (.tmp 7) rfl rfl (cs := sa) (by rw [HS_sa.out]; exact agg_shift) hcA.out ?_)
            refine HSX.out.mono ?_
            rintro e w9 ⟨rfl, k9⟩
            have K9 := Lib.hid (KX.out.then k9)
            clear k9 HSX hcA
            go_wp2_with (refine stop_store 49 (.tmp 21) (.tmp 145) rfl ?_)
            constructor
            refine wpList_store_all rfl 49 (.tmp 21) (.tmp 145) rfl rfl rfl (vs := [.int .i64 a, .int .i64 b]) agg_span.2 (Blk.new _ _ _) (by simp [Value.oneCell']) ?_ ?_
            · rfl
            intro w10 d10 k10
            have k910 : Keep [] w9 w10 := ((Keep.refl [] w9).alloc _).trans k10 (fun y hy hlt => by simp at hy; omega)
            have K10 := Lib.hid (K9.out.then k910)
            have hcI := Lib.hid (HIq w10 K10.out)
            have hcL := Lib.hid (HLq w10 K10.out)
            have D10 := Lib.hid d10
            clear k10 k910 d10
            go_wp2_with (first
              | (refine wpList_load_agg rfl 26 (.tmp 3) rfl rfl (cs := il) (by rw [HIC.out]; exact agg_image) hcI.out ?_)
              | (refine wpList_load_agg rfl 27 (.tmp 5) rfl rfl (cs := lc) (by rw [HOC.out]; exact agg_offs) hcL.out ?_))
            refine (HRSq _ K10.out).out.mono ?_
            rintro e w11 ⟨rfl, k11⟩
            have K11 := Lib.hid (K10.out.then k11)
            have hcS := Lib.hid (D10.out.keep0 k11).cellsAt
            have HAX := HALq w11 K11.out
            clear k11 hcI hcL HALq HRSq
            go_wp2_with (refine wpList_agg_gd rfl 49 (.tmp 21) rfl rfl (cs := [.int .i64 a, .int .i64 b]) agg_span hcS.out ?_)
            refine HAX.out.mono ?_
            rintro e w12 ⟨rfl, k12⟩
            go_wp2
            go_ret
            exact ⟨rfl, (HKw.out.then K11.out).then k12⟩
end Go.Proofs.YtggjhjbcdnffnaaDoor
