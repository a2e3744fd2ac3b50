/- The law's helper modes, walked. Condition: the table of math/bits lies where the program's text lays it; small numbers. -/
import Derived.Test.YtajlkfhekligeaaDoorLaw18C
namespace Go.Proofs.YtajlkfhekligeaaDoor
open Go.RowKit

set_option maxRecDepth 100000 in
set_option maxHeartbeats 2000000 in
theorem modes_any (v : ImgV) (x : Img) (q : Nat) (w : World) (hT : Tab w) (h : ImgAt w v x) (hq : q < 4294967296) (hw : ∀ i, x.tasks.length ≤ i → q.testBit i = false) (hx : Small x) :
    Calls Tryd.prog 38 #[.agg (imgCells v x).toArray, .int .u32 (q : Int)] w fun e w' => e = .returned (.bool true) ∧ Keep [] w w' := by
  have hn := hx.n
  have hand : q &&& allSet (min x.tasks.length 32) = q := by
    apply Nat.eq_of_testBit_eq
    intro i
    rw [Nat.testBit_and, allSet_testBit]
    by_cases hi : i < x.tasks.length
    · rw [decide_eq_true (by omega), Bool.and_true]
    · rw [hw i (by omega), Bool.false_and]
  obtain ⟨W0, hW0⟩ : ∃ W0, w.alloc (.cells (imgCells v x).toArray 26) = W0 := ⟨_, rfl⟩
  have b0 : Blk W0 w.heap.size 26 (imgCells v x).toArray := by rw [← hW0]; exact img_box w v x
  have K0 : Keep [] w W0 := by rw [← hW0]; exact (Keep.refl [] w).alloc _
  have HI1 : Hid (∀ w', Keep [] W0 w' → w'.cell? ⟨w.heap.size, 1, none⟩ = some (.slice v.ta x.tasks.length v.tc) ∧ CellsAt w' w.heap.size 0 (imgCells v x)) := fun w' hk => ⟨img_c1 (b0.keep0 hk), (b0.keep0 hk).cellsAt⟩
  have HI := Lib.hid h
  have HSm := Lib.hid hx
  have HN := Lib.hid hn
  have HIC : Hid ((imgCells v x).length = 4) := show _ = _ from rfl
  have HMo := fun W hk => Lib.hid (mode_any v x q W (hT.keep0 hk) (h.keep0 hk) hq hx)
  have HRm := fun W hk => Lib.hid (rmode_any v x q W (h.keep0 hk) hq hx)
  have HSl := fun W hk => Lib.hid (slack_any v x q W (hT.keep0 hk) (h.keep0 hk) hq hx)
  have HRr := fun k hk W hk' => Lib.hid (rresp_any v x q q q k W (h.keep0 hk') hq hq hq hx hk)
  have HH := fun (i : Int) w => Lib.hid (has10_any q i w hq)
  rw [hand] at HSl
  have HS0 : Hid (slackM x q = if (modeM x q).ok && !(modeM x q).rows.isEmpty then some (slackIn x.tasks (modeM x q).rows) else none) := rfl
  rw [mode_same hx q hq hw] at HS0
  have hmode := mode_same hx q hq hw
  have hrm := rmode_find x q hn
  clear b0 h hx hT hand
  generalize imgCells v x = ic at *
  have HW := Lib.hid hW0
  clear hW0
  cases hl : rlate x q x.tasks.length with
  | some ib =>
    rw [hl] at hmode hrm HS0
    have HSN : Hid (numRes (slackM x q) = .tuple #[.int .i64 0, .bool false]) := by show _ = _; rw [HS0.out]; rfl
    rw [hmode] at HMo
    rw [hrm] at HRm
    clear hmode hrm HS0 hl
    have hz : ((0 : Int) == 0) = true := rfl
    have hii : ((ib : Int) == (ib : Int)) = true := by simp
    go_enter Tryd.func38, Tryd.ntmps38
    go_wp2_with (first
      | rw [HW.out]
      | (refine wpList_load_agg rfl 26 (.tmp 2) rfl rfl (cs := ic) (by rw [HIC.out]; exact agg_image) (HI1.out _ (Keep.refl _ _)).2 ?_))
    refine (HMo _ K0).out.mono ?_
    rintro e w1 ⟨A, c, rfl, o1, k1⟩
    have HK1 := Lib.hid k1
    clear k1 o1
    go_wp2_with (refine wpList_load_agg rfl 26 (.tmp 2) rfl rfl (cs := ic) (by rw [HIC.out]; exact agg_image) (HI1.out _ HK1.out).2 ?_)
    refine (HRm _ (K0.then HK1.out)).out.mono ?_
    rintro e w2 ⟨rfl, k2⟩
    have HK2 := Lib.hid (HK1.out.then k2)
    clear k2
    go_wp2_with (refine wpList_load_agg rfl 26 (.tmp 2) rfl rfl (cs := ic) (by rw [HIC.out]; exact agg_image) (HI1.out _ HK2.out).2 ?_)
    refine (HSl _ (K0.then HK2.out)).out.mono ?_
    rintro e w3 ⟨rfl, k3⟩
    rw [HSN.out]
    have HK3 := Lib.hid (HK2.out.then k3)
    clear k3
    go_wp2
    go_ret
    exact ⟨rfl, K0.then HK3.out⟩
  | none =>
    rw [hl] at hmode hrm HS0
    have HLL : Hid ((lowL q x.tasks.length).length ≤ 32) := by
      show _ ≤ _
      have := List.length_filter_le (fun i => q.testBit i) (List.range x.tasks.length)
      unfold lowL
      simp at this
      omega
    rw [hmode] at HMo
    rw [hrm] at HRm
    have HML : Hid (((lowL q x.tasks.length).map (rrow x q)).length = (lowL q x.tasks.length).length) := by show _ = _; rw [List.length_map]
    clear hmode hrm hl
    go_enter Tryd.func38, Tryd.ntmps38
    go_wp2_with (first
      | rw [HW.out]
      | (refine wpList_load_agg rfl 26 (.tmp 2) rfl rfl (cs := ic) (by rw [HIC.out]; exact agg_image) (HI1.out _ (Keep.refl _ _)).2 ?_))
    refine (HMo _ K0).out.mono ?_
    rintro e w1 ⟨A, c, rfl, o1, k1⟩
    have HK1 := Lib.hid k1
    have HR1 := Lib.hid (Reads.of_own o1)
    clear k1 o1 HMo
    go_wp2_with (refine wpList_load_agg rfl 26 (.tmp 2) rfl rfl (cs := ic) (by rw [HIC.out]; exact agg_image) (HI1.out _ HK1.out).2 ?_)
    refine (HRm _ (K0.then HK1.out)).out.mono ?_
    rintro e w2 ⟨rfl, k2⟩
    have HK2 := Lib.hid (HK1.out.then k2)
    have HR2 := Lib.hid (HR1.out.keep0 k2)
    clear k2 HRm
    go_wp2_with (refine wpList_load_agg rfl 26 (.tmp 2) rfl rfl (cs := ic) (by rw [HIC.out]; exact agg_image) (HI1.out _ HK2.out).2 ?_)
    refine (HSl _ (K0.then HK2.out)).out.mono ?_
    rintro e w3 ⟨rfl, k3⟩
    rw [numRes_eq]
    have HK3 := Lib.hid (HK2.out.then k3)
    have HR3 := Lib.hid (HR2.out.keep0 k3)
    clear k3 HSl HR1 HR2
    generalize slackM x q = sm at *
    have HS1 : Hid (sm = if !((lowL q x.tasks.length).map (rrow x q)).isEmpty then some (slackIn x.tasks ((lowL q x.tasks.length).map (rrow x q))) else none) := HS0.out
    clear HS0
    have hz1 : decide ((0 : Int) ≤ -1) = false := rfl
    go_wp2
    clear hz1
    go_loopw [11, 12, 13] (fun kk m i wr => ∃ z : Nat, z ≤ x.tasks.length ∧ i = .int .i64 z ∧ kk = .int .i64 (lowL q z).length ∧ m = .int .i64 (slackIn x.tasks ((lowL q z).map (rrow x q))) ∧ Keep [] w3 wr) (fun _ _ i _ => x.tasks.length - (intOf i).toNat)
    case atStart => exact ⟨0, Nat.zero_le _, rfl, rfl, rfl, Keep.refl _ _⟩
    case round =>
      obtain ⟨z, hz, rfl, rfl, rfl, hK⟩ := hrel
      have HK := Lib.hid (HK3.out.then hK)
      have HR := Lib.hid (HR3.out.keep0 hK)
      have HKw := Lib.hid hK
      obtain ⟨c1, hci⟩ := HI1.out _ HK.out
      have HCI := Lib.hid hci
      have hn16 := HN.out
      have hll := HLL.out
      clear hK hci
      by_cases hlt : z < x.tasks.length
      · have hHk := HH (z : Int)
        have hs := lowL_succ q z
        have hb32 := has10_nat (s := q) (i := z) (by omega)
        have hlz : (lowL q z).length ≤ z := by
          have := List.length_filter_le (fun i => q.testBit i) (List.range z)
          unfold lowL
          simp at this
          omega
        cases hb : has10 q (z : Int) with
        | false =>
          rw [hb] at hb32
          rw [← hb32] at hs
          have HX : Hid (lowL q (z + 1) = lowL q z) := by show _ = _; rw [hs]; simp
          clear hs hb32
          go_wp2_with fail
          refine (hHk _).out.mono ?_
          rintro e w' ⟨rfl, rfl⟩
          rw [hb]
          go_wp2
          go_roundw
          case rel => exact ⟨z + 1, by omega, by go_num, by rw [HX.out], by rw [HX.out], HKw.out⟩
          case measure => simp [intOf] <;> omega
        | true =>
          rw [hb] at hb32
          rw [← hb32, if_pos rfl] at hs
          obtain ⟨r, hr⟩ := low_get q x.tasks.length z hlt hb32.symm
          have hkl : (lowL q z).length < (lowL q x.tasks.length).length := by rw [hr]; simp
          have HX : Hid (lowL q (z + 1) = lowL q z ++ [z]) := hs
          have HXL : Hid ((lowL q (z + 1)).length = (lowL q z).length + 1) := by show _ = _; rw [hs]; simp
          have hml : ((lowL q x.tasks.length).map (rrow x q)).length = (lowL q x.tasks.length).length := HML.out
          have hgetr : ((lowL q x.tasks.length).map (rrow x q))[(lowL q z).length]? = some (rrow x q z) := by
            rw [List.getElem?_map, hr, List.getElem?_append_right (Nat.le_refl _), Nat.sub_self]; rfl
          obtain ⟨b, o, hA, hbw, hcells⟩ := HR.out.elems rfl (fun r _ => row_len r) (by omega)
          have hget2 : ((lowL q x.tasks.length).map (rrow x q))[(lowL q z).length]'(by omega) = rrow x q z := by
            rw [List.getElem?_eq_getElem (by omega)] at hgetr; injection hgetr
          have hct := hcells (lowL q z).length (by omega)
          rw [hget2] at hct
          have ht0 := hct 0 (.int .i64 (z : Int)) rfl
          have ht2 := hct 2 (.int .i64 ((rrespM x q q q z).getD 0)) rfl
          rw [Nat.add_zero] at ht0
          obtain ⟨b2, o2, hA2, hbw2, hcs2⟩ := HI.out.task (by omega)
          have htk : x.tasks[z]? = some x.tasks[z] := List.getElem?_eq_getElem hlt
          have hd := (hcs2 z hlt).keep0 (K0.then HK.out) hbw2 1 (.int .i64 x.tasks[z].ded) rfl
          have hle := rresp_le HSm.out q z x.tasks[z] htk
          have hdb := HSm.out.ded _ (List.getElem_mem hlt)
          have HSL : Hid (slackIn x.tasks ((lowL q (z + 1)).map (rrow x q)) = min (slackIn x.tasks ((lowL q z).map (rrow x q))) (x.tasks[z].ded - (rrespM x q q q z).getD 0)) := by
            show _ = _
            rw [hs, List.map_append, List.map_singleton, slackIn_snoc, slack_row q z _ htk]
          rw [hA2] at c1
          have hRz := HRr z hlt
          have HHD := Lib.hid hd
          have HHT0 := Lib.hid ht0
          have HHT2 := Lib.hid ht2
          have HC1 := Lib.hid c1
          subst hA
          have p0 : (0 : Int) ≤ (z : Int) := by omega
          have p1 : (z : Int) < (x.tasks.length : Int) := by omega
          have p2 : ((lowL q z).length : Int) < ((lowL q x.tasks.length).length : Int) := by omega
          have p3 : (0 : Int) ≤ ((lowL q z).length : Int) := by omega
          have hzz : ((z : Int) != (z : Int)) = false := by simp
          have hvv : ((rrespM x q q q z).getD 0 != (rrespM x q q q z).getD 0) = false := by simp
          clear hs hb32 hr hgetr hget2 hct hcells hcs2 hd ht0 ht2 htk hlz c1
          generalize hrr : rrespM x q q q z = rr at *
          generalize x.tasks[z].ded = td at *
          generalize slackIn x.tasks ((lowL q z).map (rrow x q)) = s0 at *
          generalize hLn : (lowL q z).length = kz at *
          generalize hnl : (lowL q x.tasks.length).length = nl at *
          generalize hg0 : rr.getD 0 = r0 at *
          have HG0 := Lib.hid hg0
          clear hrr hLn hg0 hnl
          rcases Int.lt_or_le (td - r0) s0 with hcs | hcs
          all_goals
            have c1 := HC1.out
            go_wp2_with fail
            refine (hHk _).out.mono ?_
            rintro e w' ⟨rfl, rfl⟩
            rw [hb]
            go_wp2_with (refine wpList_load_agg rfl 26 (.tmp 2) rfl rfl (cs := ic) (by rw [HIC.out]; exact agg_image) HCI.out ?_)
            refine (hRz _ (K0.then HK.out)).out.mono ?_
            rintro e w5 ⟨rfl, k5⟩
            rw [numRes_eq, HG0.out]
            have c1 := (k5.cell (p := ⟨w.heap.size, 1, none⟩) (World.block_lt_of_cell? _ _ HC1.out) (by simp)).trans HC1.out
            have d1 := (k5.cell (p := ⟨b2, o2 + z * 11 + 1, none⟩) (World.block_lt_of_cell? _ _ HHD.out) (by simp)).trans HHD.out
            have d2 := (k5.cell (p := ⟨b, o + kz * 3, none⟩) (World.block_lt_of_cell? _ _ HHT0.out) (by simp)).trans HHT0.out
            have d3 := (k5.cell (p := ⟨b, o + kz * 3 + 2, none⟩) (World.block_lt_of_cell? _ _ HHT2.out) (by simp)).trans HHT2.out
            have HK5 := Lib.hid (HKw.out.then k5)
            clear k5
            first
              | (have hmin : Hid (min s0 (td - r0) = td - r0) := by show _ = _; omega
                 go_wp2
                 go_roundw
                 case rel => exact ⟨z + 1, by omega, by go_num, by rw [HXL.out]; go_num, by rw [HSL.out, hmin.out], HK5.out⟩
                 case measure => simp [intOf] <;> omega)
              | (have hmin : Hid (min s0 (td - r0) = s0) := by show _ = _; omega
                 go_wp2
                 go_roundw
                 case rel => exact ⟨z + 1, by omega, by go_num, by rw [HXL.out]; go_num, by rw [HSL.out, hmin.out], HK5.out⟩
                 case measure => simp [intOf] <;> omega)
      · obtain rfl : z = x.tasks.length := by omega
        have hlx : ¬ x.tasks.length < x.tasks.length := hlt
        have HKA := Lib.hid (K0.then HK.out)
        rcases Nat.eq_zero_or_pos (lowL q x.tasks.length).length with h0 | h0
        · have HSM : Hid (sm = none) := by show _ = _; rw [HS1.out, List.eq_nil_of_length_eq_zero h0]; rfl
          have g0 : sm.getD 0 = 0 := by rw [HSM.out]; rfl
          have g1 : sm.isSome = false := by rw [HSM.out]; rfl
          generalize sm.getD 0 = sg at *
          generalize sm.isSome = si at *
          generalize slackIn x.tasks ((lowL q x.tasks.length).map (rrow x q)) = sl at *
          generalize hnl : (lowL q x.tasks.length).length = nl at *
          subst g0 g1
          subst h0
          clear hnl HML HLL hll
          go_wp2
          go_ret
          exact ⟨rfl, HKA.out⟩
        · have hne : ((lowL q x.tasks.length).map (rrow x q)).isEmpty = false := by
            cases hL : lowL q x.tasks.length with
            | nil => rw [hL] at h0; simp at h0
            | cons a l => rfl
          have HSM : Hid (sm = some (slackIn x.tasks ((lowL q x.tasks.length).map (rrow x q)))) := by show _ = _; rw [HS1.out, hne]; rfl
          have g0 : sm.getD 0 = slackIn x.tasks ((lowL q x.tasks.length).map (rrow x q)) := by rw [HSM.out]; rfl
          have g1 : sm.isSome = true := by rw [HSM.out]; rfl
          generalize sm.getD 0 = sg at *
          generalize sm.isSome = si at *
          generalize slackIn x.tasks ((lowL q x.tasks.length).map (rrow x q)) = sl at *
          subst g0 g1
          have hk0 : (((lowL q x.tasks.length).length : Int) == 0) = false := by rw [beq_eq_false_iff_ne]; omega
          have hkk : (((lowL q x.tasks.length).length : Int) == ((lowL q x.tasks.length).length : Int)) = true := by simp
          have hkp : (0 : Int) < ((lowL q x.tasks.length).length : Int) := by omega
          have hss : (sg == sg) = true := by simp
          generalize hnl : (lowL q x.tasks.length).length = nl at *
          clear hnl HML HLL hll h0 hne
          go_wp2
          go_ret
          exact ⟨rfl, HKA.out⟩
end Go.Proofs.YtajlkfhekligeaaDoor
