/- OffsetFills: the law's walk. Condition: the table of math/bits lies where the program's text lays it. -/
import Derived.Test.YtggjhjbcdnffnaaDoorLaw20B
import Derived.Test.YtggjhjbcdnffnaaDoorOffE
import Derived.Test.YtggjhjbcdnffnaaDoorImgRS
namespace Go.Proofs.YtggjhjbcdnffnaaDoor
open Go.RowKit
set_option maxRecDepth 100000 in
set_option maxHeartbeats 4000000 in
theorem offsetFills_any (v : ImgV) (x : Img) (w : World) (hTb : Tab w) (h : ImgAt w v x) :
    Calls Tryd.prog 7 #[.agg (imgCells v x).toArray] w fun e w' => e = .returned (.bool true) ∧ Keep [] w w' := by
  have b0 := img_box w v x
  obtain ⟨W0, hW0⟩ : ∃ W0, w.alloc (.cells (imgCells v x).toArray 26) = W0 := ⟨_, rfl⟩
  rw [hW0] at b0
  have K0 : Keep [] w W0 := by rw [← hW0]; exact (Keep.refl [] w).alloc _
  have HC0 : Hid (∀ w', Keep [] W0 w' → CellsAt w' w.heap.size 0 (imgCells v x)) := fun w' hk => (b0.keep0 hk).cellsAt
  have HI1 : Hid (∀ w', Keep [] W0 w' → w'.cell? ⟨w.heap.size, 3, none⟩ = some (.slice v.ea x.edges.length v.ec)) := fun w' hk => by rw [(b0.keep0 hk).cell]; rfl
  have HIC : Hid ((imgCells v x).length = 4) := show _ = _ from rfl
  have HG := Lib.hid (great_any v x W0 (h.keep0 K0))
  have HR := fun w' hk' => Lib.hid (right_any v x w' (h.keep0 (K0.then hk')))
  have HAl := fun w' hk => Lib.hid (alive20 w' (hTb.keep0 (w' := w') hk))
  have hle63 := h.le
  unfold maxLen at hle63
  have HW := Lib.hid hW0
  have HI := Lib.hid h
  have HTB := Lib.hid hTb
  have HK0 := Lib.hid K0
  have hz16 : Hid ((iv z16).length = 16) := show _ = _ from rfl
  have hone0 : Hid (∀ u ∈ iv z16, u.oneCell' = true) := iv_one _
  have hbz : Hid (#[Value.int .i64 0, .int .i64 0, .int .i64 0, .int .i64 0, .int .i64 0, .int .i64 0, .int .i64 0, .int .i64 0, .int .i64 0, .int .i64 0, .int .i64 0, .int .i64 0, .int .i64 0, .int .i64 0, .int .i64 0, .int .i64 0] = (iv z16).toArray) := show _ = _ from rfl
  clear h hTb b0 hW0
  generalize hil : imgCells v x = il at *
  have HIL := Lib.hid hil
  clear hil
  go_enter Tryd.func7, Tryd.ntmps7
  go_wp2_with (first
    | rw [HW.out]
    | (refine wpList_load_agg rfl 26 (.tmp 1) rfl rfl (cs := il) (by rw [HIC.out]; exact agg_image) (HC0.out _ (Keep.refl _ _)) ?_))
  refine HG.out.mono ?_
  rintro e w2 ⟨rfl, k2⟩
  cases hg : greatImg x with
  | true =>
    go_wp2
    go_ret
    exact ⟨rfl, K0.then k2⟩
  | false =>
  have hc2 := Lib.hid (HC0.out w2 k2)
  go_wp2_with (refine wpList_agg_gd rfl 26 (.tmp 1) rfl rfl (cs := il) (by rw [HIC.out]; exact agg_image) hc2.out ?_)
  refine (HR _ k2).out.mono ?_
  rintro e w3 ⟨rfl, k3⟩
  have HK3 := Lib.hid (k2.then k3)
  clear k2 k3 hc2
  cases hr : ((chkImg x).2 == 0) with
  | false =>
    go_wp2
    go_ret
    exact ⟨rfl, K0.then HK3.out⟩
  | true =>
  have hx0 : (chkImg x).2 = 0 := by simpa using hr
  have hc3 := Lib.hid (HC0.out w3 HK3.out)
  clear HG HR hg hr
  have hne := (right_of hx0).ne
  have HFi := fun (k : Nat) (hk : k < x.edges.length) w' hkk => Lib.hid (find_any v x k w' (HTB.out.keep0 (w' := w') hkk) (HI.out.keep0 hkk) (edW_of hx0 HI.out.ok hk))
  have HFX0 : Hid ((chkImg (fillX x)).2 = 0) := by show _ = _; rw [chk_of (fillX_right (right_of hx0) HI.out.ok hx0)]
  have hone : Hid (∀ u ∈ x.edges.flatMap edgCells, u.oneCell' = true) := edges_one x.edges
  have HOS : Hid (∀ e ∈ x.edges, e.offs.length = 16 ∧ e.mp.length = 4) := fun e he => ⟨HI.out.ok.offs e he, HI.out.ok.mp e he⟩
  have HFl := Lib.hid (fill_any v x w3 (HTB.out.keep0 (K0.then HK3.out)) (HI.out.keep0 (K0.then HK3.out)) hx0)
  rw [HIL.out] at HFl HFi
  clear hx0
  go_wp2_with (refine wpList_load_agg rfl 26 (.tmp 1) rfl rfl (cs := il) (by rw [HIC.out]; exact agg_image) hc3.out ?_)
  refine HFl.out.mono ?_
  rintro e w4 (⟨hall, A1, c1, rfl, hI1, k4⟩ | ⟨j, ⟨hj, hjb, hjg⟩, rfl, k4⟩)
  · have HK4 := Lib.hid (HK3.out.then k4)
    have HALL := Lib.hid hall
    have HI4 := Lib.hid hI1
    have HLY0 : Hid ((imgCells { v with ea := A1, ec := c1 } (fillX x)).length = 4) := show _ = _ from rfl
    have honeY : Hid (∀ u ∈ imgCells { v with ea := A1, ec := c1 } (fillX x), u.oneCell' = true) := fun u hu => by simp only [imgCells, List.mem_cons, List.not_mem_nil, or_false] at hu; rcases hu with rfl | rfl | rfl | rfl <;> rfl
    generalize hyc : imgCells { v with ea := A1, ec := c1 } (fillX x) = yc at *
    have HYC := Lib.hid hyc
    clear k4 hc3 HFl hall hI1 hyc
    go_wp2_with (refine stop_store 26 (.tmp 3) (.tmp 21) rfl ?_)
    constructor
    refine wpList_store_all rfl 26 (.tmp 3) (.tmp 21) rfl rfl rfl (vs := yc) (by rw [HLY0.out]; exact agg_image.2) (Blk.new _ _ _) honeY.out ?_ ?_
    · rw [HLY0.out]; rfl
    intro w5 d5 k5
    have k45 : Keep [] w4 w5 := ((Keep.refl [] w4).alloc _).trans k5 (fun y hy hlt => by simp at hy; omega)
    have HK45 := Lib.hid k45
    have HK5 := Lib.hid (HK4.out.then k45)
    have D5 := Lib.hid d5
    have HIY := HI4
    clear k5 k45 d5
    go_wp2_with (refine stop_at 26 rfl ?_)
    constructor
    have oE := own_emptyE w5 67 23
    have hz5 : (w5.alloc (.cells #[] 67)).heap.size = w5.heap.size + 1 := by simp
    have kE : Keep [] w5 (w5.alloc (.cells #[] 67)) := (Keep.refl _ w5).alloc _
    obtain ⟨BG, hBG0⟩ : ∃ BG, w5.heap.size = BG := ⟨_, rfl⟩
    rw [hBG0] at oE hz5
    rw [hBG0]
    generalize w5.alloc (.cells #[] 67) = w6 at *
    have HK6 := Lib.hid kE
    have c3 : w6.cell? ⟨w.heap.size, 3, none⟩ = some (.slice v.ea x.edges.length v.ec) := HI1.out w6 (HK5.out.then kE)
    have HBGE := Lib.hid hBG0
    have HZ6 := Lib.hid hz5
    clear hBG0 kE hz5
    go_wp2_with (refine stop_at 27 rfl ?_)
    constructor
    have hBG6 : BG ≤ w6.heap.size := by have := HZ6.out; omega
    refine wpList_append_reads rfl (.tmp 24) (.tmp 26) 24 rfl slice_edge20 oE rfl (HI.out.edges.keep0 ((K0.then HK5.out).then HK6.out)) rfl hone.out hBG6 (by omega) (by unfold maxLen; omega) ?_
    intro v7 w7 o7 k7 _
    rw [Nat.zero_add, List.nil_append] at o7
    have k7 : Keep [BG] w6 w7 := k7
    have HK7 : Hid (Keep [] w5 w7) := HK6.out.trans k7 (fun y hy hlt => by have h1 := HBGE.out; simp at hy; omega)
    obtain ⟨A, cp, rfl⟩ := own_shape o7
    have O7 := Lib.hid o7
    clear o7 k7 c3 oE hBG6
    go_wp2
    rcases Nat.eq_zero_or_pos x.edges.length with hn0 | hn0
    · have HN0 := Lib.hid hn0
      go_loopw [7] (fun i wr => ∃ k : Nat, k ≤ x.edges.length ∧ i = .int .i64 k ∧ wr = w7) (fun i _ => x.edges.length - (intOf i).toNat)
      case atStart => exact ⟨0, Nat.zero_le _, rfl, rfl⟩
      case round =>
        obtain ⟨k, hk, rfl, rfl⟩ := hrel
        obtain rfl : k = x.edges.length := by have := HN0.out; omega
        have hrow : wr.ownsRow BG 67 23 (.slice A x.edges.length cp) x.edges.length ((fillTo x x.edges.length).flatMap edgCells) := by
          have := O7.out
          rw [← fillTo_zero x] at this
          rw [← show fillTo x 0 = fillTo x x.edges.length by rw [HN0.out]]
          have h2 := fillTo_len x 0
          rw [h2] at this
          exact this
        have KR := HK7.out
        clear hn0
        have p2 : decide ((x.edges.length : Int) < (x.edges.length : Int)) = false := by simp
        have hlenF := fillTo_len x x.edges.length
        have HKR0 := Lib.hid KR
        have hcX : Hid (CellsAt wr w.heap.size 0 il) := HC0.out wr (HK5.out.then KR)
        have HRw := Lib.hid hrow
        have hbrow : Hid (∀ y, y ∈ (Value.slice A x.edges.length cp).ownBlock.toList → BG ≤ y ∧ y < wr.heap.size) := fun y hy => hrow.lt y (by simpa using hy)
        have hil3 : il[3]? = some (.slice v.ea x.edges.length v.ec) := by rw [← HIL.out]; rfl
        have HI3 := Lib.hid hil3
        have honeI : Hid (∀ u ∈ il, u.oneCell' = true) := by
          intro u hu
          rw [← HIL.out] at hu
          simp only [imgCells, List.mem_cons, List.not_mem_nil, or_false] at hu
          rcases hu with rfl | rfl | rfl | rfl <;> rfl
        clear hrow KR hil3
        go_wp2_with (first
          | (refine wpList_load_agg rfl 26 (.tmp 1) rfl rfl (cs := il) (by rw [HIC.out]; exact agg_image) hcX.out ?_)
          | refine stop_store 26 (.tmp 10) (.tmp 68) rfl ?_)
        constructor
        refine wpList_store_all rfl 26 (.tmp 10) (.tmp 68) rfl rfl rfl (vs := il) (by rw [HIC.out]; exact agg_image.2) (Blk.new _ _ _) honeI.out ?_ ?_
        · rw [HIC.out]; rfl
        intro w8 d8 k8
        have k78 : Keep [] wr w8 := ((Keep.refl [] wr).alloc _).trans k8 (fun y hy hlt => by simp at hy; omega)
        have HK8 := Lib.hid k78
        have ce := d8.cell 3
        have ce : w8.cell? ⟨wr.heap.size, 3, none⟩ = some (.slice v.ea x.edges.length v.ec) := by rw [ce]; simpa using HI3.out
        have fe := d8.frozen 3
        have D9 := d8.set_ 3 (.slice A x.edges.length cp)
        have hcells : il.toArray.setIfInBounds 3 (.slice A x.edges.length cp) = (imgCells { v with ea := A, ec := cp } (fillX x)).toArray := by
          rw [← HIL.out]
          show _ = #[Value.int .i64 x.res, .slice v.ta x.tasks.length v.tc, .slice v.ma x.modes.length v.mc, .slice A (fillTo x x.edges.length).length cp].toList.toArray
          rw [hlenF]; rfl
        rw [hcells] at D9
        have KS := keep_set w8 wr.heap.size 3 (.slice A x.edges.length cp)
        have O10 := own_keep (own_keep0 HRw.out k78) KS (fun y hy hm => by have h1 := (hbrow.out y (by simpa using hy)).2; simp at hm; omega)
        have KF : Keep [] w5 (w8.setCell ⟨wr.heap.size, 3, none⟩ (.slice A x.edges.length cp)) := (HKR0.out.then k78).trans KS (fun y hy hlt => by have := HKR0.out.size; simp at hy; omega)
        clear d8 k8 k78 KS hcells
        go_wp2_with (refine stop_store 24 (.tmp 70) (.tmp 69) rfl ?_)
        constructor
        refine wpList_store1E rfl 24 (.tmp 70) (.tmp 69) rfl (v := .slice A x.edges.length cp) rfl rfl (by kernel_rfl) rfl rfl ce fe ?_
        generalize w8.setCell ⟨wr.heap.size, 3, none⟩ (.slice A x.edges.length cp) = w9 at *
        have KW9 : Keep [] w w9 := (K0.then HK5.out).then KF
        have hIz : ImgAt w9 { v with ea := A, ec := cp } (fillX x) := by
          have h' := HI.out.keep0 KW9
          refine ⟨fillX_ok HI.out.ok, h'.ql, h'.tasks, h'.modes, ?_, h'.queues, h'.lt, h'.lm, ?_, h'.lq⟩
          · have := Reads.of_own O10
            show Reads w9 23 A (fillTo x x.edges.length).length ((fillTo x x.edges.length).flatMap edgCells)
            rw [hlenF]
            exact this
          · show (fillTo x x.edges.length).length ≤ maxLen
            rw [hlenF]; unfold maxLen; omega
        have hIy : ImgAt w9 { v with ea := A1, ec := c1 } (fillX x) := HIY.out.keep0 (HK45.out.then KF)
        have HSa := Lib.hid (rsame_any { v with ea := A1, ec := c1 } { v with ea := A, ec := cp } (fillX x) (fillX x) w9 hIy hIz)
        have HRt := fun w' (hk : Keep [] w9 w') => Lib.hid (right_any { v with ea := A1, ec := c1 } (fillX x) w' (hIy.keep0 hk))
        have HAL9 := fun w' (hk : Keep [] w9 w') => HAl w' (KW9.then hk)
        have hcY : ∀ w', Keep [] w9 w' → CellsAt w' w4.heap.size 0 (imgCells { v with ea := A1, ec := c1 } (fillX x)) := fun w' hk => by
          rw [HYC.out]
          exact (D5.out.keep0 (KF.then hk)).cellsAt
        have hcZ := Lib.hid D9.cellsAt
        have hdec : decide (fillX x = fillX x) = true := by simp
        have hchk : ((chkImg (fillX x)).2 == 0) = true := by rw [HFX0.out]; rfl
        rw [hdec] at HSa
        simp only [hchk] at HRt
        have HLY : Hid ((imgCells { v with ea := A1, ec := c1 } (fillX x)).length = 4) := show _ = _ from rfl
        have HLZ : Hid ((imgCells { v with ea := A, ec := cp } (fillX x)).length = 4) := show _ = _ from rfl
        have HKW9 := Lib.hid KW9
        have hcY0 := Lib.hid (hcY w9 (Keep.refl _ _))
        have HCY : Hid (∀ w', Keep [] w9 w' → CellsAt w' w4.heap.size 0 (imgCells { v with ea := A1, ec := c1 } (fillX x))) := hcY
        clear D9 O10 KF KW9 hIz hIy ce fe hcY hdec hchk
        generalize imgCells { v with ea := A, ec := cp } (fillX x) = zc at *
        generalize imgCells { v with ea := A1, ec := c1 } (fillX x) = yc2 at *
        go_wp2_with (first
          | (refine wpList_agg_gd rfl 26 (.tmp 3) rfl rfl (cs := yc2) (by rw [HLY.out]; exact agg_image) hcY0.out ?_)
          | (refine wpList_agg_gd rfl 26 (.tmp 10) rfl rfl (cs := zc) (by rw [HLZ.out]; exact agg_image) hcZ.out ?_))
        refine HSa.out.mono ?_
        rintro e wa ⟨rfl, ka⟩
        have hcYa := Lib.hid (HCY.out wa ka)
        go_wp2_with (refine wpList_agg_gd rfl 26 (.tmp 3) rfl rfl (cs := yc2) (by rw [HLY.out]; exact agg_image) hcYa.out ?_)
        refine (HRt wa ka).out.mono ?_
        rintro e wb ⟨rfl, kb⟩
        go_wp2_with fail
        refine (HAL9 wb (ka.then kb)).out.mono ?_
        rintro e wl ⟨rfl, kl⟩
        go_wp2
        go_ret
        exact ⟨rfl, ((HKW9.out.then ka).then kb).then kl⟩
    · obtain ⟨g, cap, hv, hBg, hgl⟩ := O7.out.form hn0
      injection hv with hA hB hC
      subst hA hC
      have HN0 := Lib.hid hn0
      have HKG : Hid (∀ w', Keep [g] w7 w' → Keep [] w5 w') := fun w' hk => HK7.out.trans hk (fun y hy hlt => by have h1 := HBGE.out; simp at hy; omega)
      clear hB hn0 hBg
      go_loopw [7] (fun i wr => ∃ k : Nat, k ≤ x.edges.length ∧ i = .int .i64 k ∧ wr.ownsRow BG 67 23 (.slice (some ⟨g, 0, none⟩) x.edges.length cp) x.edges.length ((fillTo x k).flatMap edgCells) ∧ Keep [g] w7 wr) (fun i _ => x.edges.length - (intOf i).toNat)
      case atStart => exact ⟨0, Nat.zero_le _, rfl, by rw [fillTo_zero]; exact O7.out, Keep.refl _ _⟩
      case round =>
        obtain ⟨k, hk, rfl, hrow, hK⟩ := hrel
        by_cases hlt : k < x.edges.length
        · skip
          have p0 : (0 : Int) ≤ (k : Int) := by omega
          have p1 : (k : Int) < (x.edges.length : Int) := by omega
          have p2 : decide ((k : Int) < (x.edges.length : Int)) = true := decide_eq_true p1
          have hgk := fillTo_get x k k hlt
          rw [if_neg (by omega)] at hgk
          obtain ⟨b, o', hA', hbw, hcs⟩ := (Reads.of_own hrow).elems (fillTo_len x k) (fun e he => edgCells_len (fillTo_lens HOS.out k e he).1 (fillTo_lens HOS.out k e he).2) HN0.out
          injection hA' with hA'
          injection hA' with hb' ho'
          subst hb' ho'
          have hkl : k < (fillTo x k).length := by rw [fillTo_len]; exact hlt
          have hct := hcs k hkl
          have hge : (fillTo x k)[k] = x.edges[k] := by
            have h2 := List.getElem?_eq_getElem (l := fillTo x k) hkl
            rw [hgk] at h2
            exact (Option.some.inj h2).symm
          rw [hge] at hct
          have cp2 : wr.cell? ⟨g, 0 + k * 23 + 2, none⟩ = some (.int .i64 x.edges[k].prot) := hct 2 _ rfl
          rw [Nat.zero_add] at cp2
          have HRow := Lib.hid hrow
          have HK := Lib.hid hK
          have HKR := Lib.hid (HKG.out wr hK)
          have hgF : goodF x k = (!decide (x.edges[k].prot = 3) || findB x k) := by unfold goodF; rw [List.getElem?_eq_getElem hlt]
          have hgT : goodF x k = true := HALL.out k hlt
          rw [hgT] at hgF
          clear hcs hct hge hgk hrow hK hbw hgT
          by_cases hp : x.edges[k].prot = 3
          · have hpn : ((x.edges[k].prot) != 3) = false := by simp [hp]
            obtain ⟨EA, EB, hs1, hs2, hsl⟩ := fillTo_split x k hlt hp
            have hFk := HFi k hlt wr ((K0.then HK5.out).then HKR.out)
            have hcIc : Hid (CellsAt wr w.heap.size 0 il) := HC0.out wr (HK5.out.then HKR.out)
            have hfr := findR_ok (x := x) k
            have HFR : Hid ((iv (findR x k)).length = 16) := by show _ = _; rw [iv_len]; exact hfr.1
            have honeF : Hid (∀ u ∈ iv (findR x k), u.oneCell' = true) := iv_one _
            have hfbT : findB x k = true := by rw [decide_eq_true hp] at hgF; simpa using hgF.symm
            rw [hfbT] at hFk
            have hflat : (fillTo x k).flatMap edgCells = (EA.flatMap edgCells ++ iv [x.edges[k].frm, x.edges[k].to, x.edges[k].prot]) ++ (iv x.edges[k].offs ++ (iv x.edges[k].mp ++ EB.flatMap edgCells)) := by
              rw [hs1, fm_append, List.flatMap_cons, edge_split]; simp
            have hflat2 : (fillTo x (k + 1)).flatMap edgCells = (EA.flatMap edgCells ++ iv [x.edges[k].frm, x.edges[k].to, x.edges[k].prot]) ++ (iv (findR x k) ++ (iv x.edges[k].mp ++ EB.flatMap edgCells)) := by
              rw [hs2, fm_append, List.flatMap_cons, edge_split]; simp
            have hEAl : (EA.flatMap edgCells ++ iv [x.edges[k].frm, x.edges[k].to, x.edges[k].prot]).length = k * 23 + 3 := by
              have : (EA.flatMap edgCells).length = EA.length * 23 := edges_flat_len (fun e he => fillTo_lens HOS.out k e (by rw [hs1]; simp [he]))
              rw [List.length_append, this, hsl]; rfl
            have hofl : (iv (findR x k)).length = (iv x.edges[k].offs).length := by rw [iv_len, iv_len, hfr.1, (HOS.out _ (List.getElem_mem hlt)).1]
            have HFL := Lib.hid hflat
            have HFL2 := Lib.hid hflat2
            have HEA := Lib.hid hEAl
            have HOF := Lib.hid hofl
            clear hs1 hs2 hsl hflat hflat2 hEAl hofl hfr hgF hfbT
            generalize iv (findR x k) = fc at *
            go_wp2_with (refine wpList_load_agg rfl 26 (.tmp 1) rfl rfl (cs := il) (by rw [HIC.out]; exact agg_image) hcIc.out ?_)
            refine hFk.out.mono ?_
            rintro e w8 ⟨rfl, k8⟩
            have HK8 := Lib.hid k8
            clear k8 hFk hcIc
            go_wp2_with (refine stop_store 27 (.tmp 8) (.tmp 44) rfl ?_)
            constructor
            refine wpList_store_all rfl 27 (.tmp 8) (.tmp 44) rfl rfl rfl (vs := fc) (by rw [HFR.out]; exact agg_offs.2) (Blk.new _ _ _) honeF.out ?_ ?_
            · rw [HFR.out]; rfl
            intro w9 d9 k9
            have k89 : Keep [] w8 w9 := ((Keep.refl [] w8).alloc _).trans k9 (fun y hy hlt => by simp at hy; omega)
            have HK9 := Lib.hid (HK8.out.then k89)
            have hcD := Lib.hid d9.cellsAt
            clear k9 k89 d9
            have HRow9 := Lib.hid (own_keep0 HRow.out HK9.out)
            obtain ⟨cur, hcur, hbg, hparts⟩ := own_blk HRow9.out
            have HCUR := Lib.hid hcur
            have HPT := Lib.hid hparts
            have HBB := Lib.hid hbg
            have hsz : k * 23 + 3 + 16 ≤ cur.size := by
              obtain ⟨q1, q2, q3, q4⟩ := hparts
              have h2 : x.edges.length * 23 ≤ cp * 23 := Nat.mul_le_mul_right _ q1
              omega
            have HSZ := Lib.hid hsz
            clear hcur hparts hbg hsz
            go_wp2_with (first
              | (refine wpList_load_agg rfl 27 (.tmp 8) rfl rfl (cs := fc) (by rw [HFR.out]; exact agg_offs) hcD.out ?_)
              | refine stop_store 27 (.tmp 67) (.tmp 65) rfl ?_)
            constructor
            refine wpList_store_agg rfl 27 (.tmp 67) (.tmp 65) rfl (f := k * 23 + 3) rfl rfl (vs := fc) (by rw [HFR.out]; exact agg_offs.2) HCUR.out honeF.out (by rw [HFR.out]; exact HSZ.out) ?_
            intro wz dz kz
            rw [← HEA.out] at dz
            have orow := own_splice HRow9.out HBB.out HPT.out HFL.out HOF.out dz
            rw [← HFL2.out] at orow
            have HOR := Lib.hid orow
            have HKZ := Lib.hid ((HK.out.then HK9.out).trans kz (fun y hy _ => hy))
            clear orow dz kz
            go_wp2
            go_roundw
            case rel => exact ⟨k + 1, by omega, by go_num, HOR.out, HKZ.out⟩
            case measure => simp [intOf] <;> omega
          · have hpn : ((x.edges[k].prot) != 3) = true := by simpa using hp
            have hsk := fillTo_skip x k hlt hp
            have HSK := Lib.hid hsk
            clear hsk hgF
            go_wp2
            go_roundw
            case rel => exact ⟨k + 1, by omega, by go_num, by rw [HSK.out]; exact HRow.out, HK.out⟩
            case measure => simp [intOf] <;> omega
        · obtain rfl : k = x.edges.length := by omega
          have KR := HKG.out wr hK
          have p2 : decide ((x.edges.length : Int) < (x.edges.length : Int)) = false := by simp
          have hlenF := fillTo_len x x.edges.length
          have HKR0 := Lib.hid KR
          have hcX : Hid (CellsAt wr w.heap.size 0 il) := HC0.out wr (HK5.out.then KR)
          have HRw := Lib.hid hrow
          have hbrow : Hid (∀ y, y ∈ (Value.slice (some ⟨g, 0, none⟩) x.edges.length cp).ownBlock.toList → BG ≤ y ∧ y < wr.heap.size) := fun y hy => hrow.lt y (by simpa using hy)
          have hil3 : il[3]? = some (.slice v.ea x.edges.length v.ec) := by rw [← HIL.out]; rfl
          have HI3 := Lib.hid hil3
          have honeI : Hid (∀ u ∈ il, u.oneCell' = true) := by
            intro u hu
            rw [← HIL.out] at hu
            simp only [imgCells, List.mem_cons, List.not_mem_nil, or_false] at hu
            rcases hu with rfl | rfl | rfl | rfl <;> rfl
          clear hrow KR hil3
          go_wp2_with (first
            | (refine wpList_load_agg rfl 26 (.tmp 1) rfl rfl (cs := il) (by rw [HIC.out]; exact agg_image) hcX.out ?_)
            | refine stop_store 26 (.tmp 10) (.tmp 68) rfl ?_)
          constructor
          refine wpList_store_all rfl 26 (.tmp 10) (.tmp 68) rfl rfl rfl (vs := il) (by rw [HIC.out]; exact agg_image.2) (Blk.new _ _ _) honeI.out ?_ ?_
          · rw [HIC.out]; rfl
          intro w8 d8 k8
          have k78 : Keep [] wr w8 := ((Keep.refl [] wr).alloc _).trans k8 (fun y hy hlt => by simp at hy; omega)
          have HK8 := Lib.hid k78
          have ce := d8.cell 3
          have ce : w8.cell? ⟨wr.heap.size, 3, none⟩ = some (.slice v.ea x.edges.length v.ec) := by rw [ce]; simpa using HI3.out
          have fe := d8.frozen 3
          have D9 := d8.set_ 3 (.slice (some ⟨g, 0, none⟩) x.edges.length cp)
          have hcells : il.toArray.setIfInBounds 3 (.slice (some ⟨g, 0, none⟩) x.edges.length cp) = (imgCells { v with ea := (some ⟨g, 0, none⟩), ec := cp } (fillX x)).toArray := by
            rw [← HIL.out]
            show _ = #[Value.int .i64 x.res, .slice v.ta x.tasks.length v.tc, .slice v.ma x.modes.length v.mc, .slice (some ⟨g, 0, none⟩) (fillTo x x.edges.length).length cp].toList.toArray
            rw [hlenF]; rfl
          rw [hcells] at D9
          have KS := keep_set w8 wr.heap.size 3 (.slice (some ⟨g, 0, none⟩) x.edges.length cp)
          have O10 := own_keep (own_keep0 HRw.out k78) KS (fun y hy hm => by have h1 := (hbrow.out y (by simpa using hy)).2; simp at hm; omega)
          have KF : Keep [] w5 (w8.setCell ⟨wr.heap.size, 3, none⟩ (.slice (some ⟨g, 0, none⟩) x.edges.length cp)) := (HKR0.out.then k78).trans KS (fun y hy hlt => by have := HKR0.out.size; simp at hy; omega)
          clear d8 k8 k78 KS hcells
          go_wp2_with (refine stop_store 24 (.tmp 70) (.tmp 69) rfl ?_)
          constructor
          refine wpList_store1E rfl 24 (.tmp 70) (.tmp 69) rfl (v := .slice (some ⟨g, 0, none⟩) x.edges.length cp) rfl rfl (by kernel_rfl) rfl rfl ce fe ?_
          generalize w8.setCell ⟨wr.heap.size, 3, none⟩ (.slice (some ⟨g, 0, none⟩) x.edges.length cp) = w9 at *
          have KW9 : Keep [] w w9 := (K0.then HK5.out).then KF
          have hIz : ImgAt w9 { v with ea := (some ⟨g, 0, none⟩), ec := cp } (fillX x) := by
            have h' := HI.out.keep0 KW9
            refine ⟨fillX_ok HI.out.ok, h'.ql, h'.tasks, h'.modes, ?_, h'.queues, h'.lt, h'.lm, ?_, h'.lq⟩
            · have := Reads.of_own O10
              show Reads w9 23 (some ⟨g, 0, none⟩) (fillTo x x.edges.length).length ((fillTo x x.edges.length).flatMap edgCells)
              rw [hlenF]
              exact this
            · show (fillTo x x.edges.length).length ≤ maxLen
              rw [hlenF]; unfold maxLen; omega
          have hIy : ImgAt w9 { v with ea := A1, ec := c1 } (fillX x) := HIY.out.keep0 (HK45.out.then KF)
          have HSa := Lib.hid (rsame_any { v with ea := A1, ec := c1 } { v with ea := (some ⟨g, 0, none⟩), ec := cp } (fillX x) (fillX x) w9 hIy hIz)
          have HRt := fun w' (hk : Keep [] w9 w') => Lib.hid (right_any { v with ea := A1, ec := c1 } (fillX x) w' (hIy.keep0 hk))
          have HAL9 := fun w' (hk : Keep [] w9 w') => HAl w' (KW9.then hk)
          have hcY : ∀ w', Keep [] w9 w' → CellsAt w' w4.heap.size 0 (imgCells { v with ea := A1, ec := c1 } (fillX x)) := fun w' hk => by
            rw [HYC.out]
            exact (D5.out.keep0 (KF.then hk)).cellsAt
          have hcZ := Lib.hid D9.cellsAt
          have hdec : decide (fillX x = fillX x) = true := by simp
          have hchk : ((chkImg (fillX x)).2 == 0) = true := by rw [HFX0.out]; rfl
          rw [hdec] at HSa
          simp only [hchk] at HRt
          have HLY : Hid ((imgCells { v with ea := A1, ec := c1 } (fillX x)).length = 4) := show _ = _ from rfl
          have HLZ : Hid ((imgCells { v with ea := (some ⟨g, 0, none⟩), ec := cp } (fillX x)).length = 4) := show _ = _ from rfl
          have HKW9 := Lib.hid KW9
          have hcY0 := Lib.hid (hcY w9 (Keep.refl _ _))
          have HCY : Hid (∀ w', Keep [] w9 w' → CellsAt w' w4.heap.size 0 (imgCells { v with ea := A1, ec := c1 } (fillX x))) := hcY
          clear D9 O10 KF KW9 hIz hIy ce fe hcY hdec hchk
          generalize imgCells { v with ea := (some ⟨g, 0, none⟩), ec := cp } (fillX x) = zc at *
          generalize imgCells { v with ea := A1, ec := c1 } (fillX x) = yc2 at *
          go_wp2_with (first
            | (refine wpList_agg_gd rfl 26 (.tmp 3) rfl rfl (cs := yc2) (by rw [HLY.out]; exact agg_image) hcY0.out ?_)
            | (refine wpList_agg_gd rfl 26 (.tmp 10) rfl rfl (cs := zc) (by rw [HLZ.out]; exact agg_image) hcZ.out ?_))
          refine HSa.out.mono ?_
          rintro e wa ⟨rfl, ka⟩
          have hcYa := Lib.hid (HCY.out wa ka)
          go_wp2_with (refine wpList_agg_gd rfl 26 (.tmp 3) rfl rfl (cs := yc2) (by rw [HLY.out]; exact agg_image) hcYa.out ?_)
          refine (HRt wa ka).out.mono ?_
          rintro e wb ⟨rfl, kb⟩
          go_wp2_with fail
          refine (HAL9 wb (ka.then kb)).out.mono ?_
          rintro e wl ⟨rfl, kl⟩
          go_wp2
          go_ret
          exact ⟨rfl, ((HKW9.out.then ka).then kb).then kl⟩
  · have HK4 := Lib.hid (HK3.out.then k4)
    have HJG := Lib.hid hjg
    have HJ := Lib.hid hj
    have hjp : x.edges[j].prot = 3 ∧ findB x j = false := by
      unfold goodF at hjb
      rw [List.getElem?_eq_getElem hj] at hjb
      have hjb : (!decide (x.edges[j].prot = 3) || findB x j) = false := hjb
      rw [Bool.or_eq_false_iff] at hjb
      have h1 : decide (x.edges[j].prot = 3) = true := by simpa using hjb.1
      exact ⟨of_decide_eq_true h1, hjb.2⟩
    have HJP := Lib.hid hjp
    clear k4 hc3 HFl hjg hjb hjp
    go_wp2_with (refine stop_store 26 (.tmp 3) (.tmp 21) rfl ?_)
    constructor
    refine wpList_store_all rfl 26 (.tmp 3) (.tmp 21) rfl rfl rfl (vs := [.int .i64 0, .slice none 0 0, .slice none 0 0, .slice none 0 0]) (by kernel_rfl) (Blk.new _ _ _) (by intro u hu; simp only [List.mem_cons, List.not_mem_nil, or_false] at hu; rcases hu with rfl | rfl | rfl | rfl <;> rfl) ?_ ?_
    · rfl
    intro w5 d5 k5
    have k45 : Keep [] w4 w5 := ((Keep.refl [] w4).alloc _).trans k5 (fun y hy hlt => by simp at hy; omega)
    have HK5 := Lib.hid (HK4.out.then k45)
    have D5 := Lib.hid d5
    clear k5 k45 d5
    go_wp2_with (refine stop_at 26 rfl ?_)
    constructor
    have oE := own_emptyE w5 67 23
    have hz5 : (w5.alloc (.cells #[] 67)).heap.size = w5.heap.size + 1 := by simp
    have kE : Keep [] w5 (w5.alloc (.cells #[] 67)) := (Keep.refl _ w5).alloc _
    obtain ⟨BG, hBG0⟩ : ∃ BG, w5.heap.size = BG := ⟨_, rfl⟩
    rw [hBG0] at oE hz5
    rw [hBG0]
    generalize w5.alloc (.cells #[] 67) = w6 at *
    have HK6 := Lib.hid kE
    have c3 : w6.cell? ⟨w.heap.size, 3, none⟩ = some (.slice v.ea x.edges.length v.ec) := HI1.out w6 (HK5.out.then kE)
    have HBGE := Lib.hid hBG0
    have HZ6 := Lib.hid hz5
    clear hBG0 kE hz5
    go_wp2_with (refine stop_at 27 rfl ?_)
    constructor
    have hBG6 : BG ≤ w6.heap.size := by have := HZ6.out; omega
    refine wpList_append_reads rfl (.tmp 24) (.tmp 26) 24 rfl slice_edge20 oE rfl (HI.out.edges.keep0 ((K0.then HK5.out).then HK6.out)) rfl hone.out hBG6 (by omega) (by unfold maxLen; omega) ?_
    intro v7 w7 o7 k7 _
    rw [Nat.zero_add, List.nil_append] at o7
    have k7 : Keep [BG] w6 w7 := k7
    have HK7 : Hid (Keep [] w5 w7) := HK6.out.trans k7 (fun y hy hlt => by have h1 := HBGE.out; simp at hy; omega)
    obtain ⟨A, cp, rfl⟩ := own_shape o7
    have O7 := Lib.hid o7
    clear o7 k7 c3 oE hBG6
    go_wp2
    have hn0 : 0 < x.edges.length := by omega
    obtain ⟨g, cap, hv, hBg, hgl⟩ := O7.out.form hn0
    injection hv with hA hB hC
    subst hA hC
    have HN0 := Lib.hid hn0
    have HKG : Hid (∀ w', Keep [g] w7 w' → Keep [] w5 w') := fun w' hk => HK7.out.trans hk (fun y hy hlt => by have h1 := HBGE.out; simp at hy; omega)
    clear hB hn0 hBg
    go_loopw [7] (fun i wr => ∃ k : Nat, k ≤ j ∧ i = .int .i64 k ∧ wr.ownsRow BG 67 23 (.slice (some ⟨g, 0, none⟩) x.edges.length cp) x.edges.length ((fillTo x k).flatMap edgCells) ∧ Keep [g] w7 wr) (fun i _ => j - (intOf i).toNat)
    case atStart => exact ⟨0, Nat.zero_le _, rfl, by rw [fillTo_zero]; exact O7.out, Keep.refl _ _⟩
    case round =>
      obtain ⟨k, hk, rfl, hrow, hK⟩ := hrel
      have hj := HJ.out
      by_cases hkj : k < j
      · have hlt : k < x.edges.length := by omega
        have p0 : (0 : Int) ≤ (k : Int) := by omega
        have p1 : (k : Int) < (x.edges.length : Int) := by omega
        have p2 : decide ((k : Int) < (x.edges.length : Int)) = true := decide_eq_true p1
        have hgk := fillTo_get x k k hlt
        rw [if_neg (by omega)] at hgk
        obtain ⟨b, o', hA', hbw, hcs⟩ := (Reads.of_own hrow).elems (fillTo_len x k) (fun e he => edgCells_len (fillTo_lens HOS.out k e he).1 (fillTo_lens HOS.out k e he).2) HN0.out
        injection hA' with hA'
        injection hA' with hb' ho'
        subst hb' ho'
        have hkl : k < (fillTo x k).length := by rw [fillTo_len]; exact hlt
        have hct := hcs k hkl
        have hge : (fillTo x k)[k] = x.edges[k] := by
          have h2 := List.getElem?_eq_getElem (l := fillTo x k) hkl
          rw [hgk] at h2
          exact (Option.some.inj h2).symm
        rw [hge] at hct
        have cp2 : wr.cell? ⟨g, 0 + k * 23 + 2, none⟩ = some (.int .i64 x.edges[k].prot) := hct 2 _ rfl
        rw [Nat.zero_add] at cp2
        have HRow := Lib.hid hrow
        have HK := Lib.hid hK
        have HKR := Lib.hid (HKG.out wr hK)
        have hgF : goodF x k = (!decide (x.edges[k].prot = 3) || findB x k) := by unfold goodF; rw [List.getElem?_eq_getElem hlt]
        have hgT : goodF x k = true := HJG.out k hkj
        rw [hgT] at hgF
        clear hcs hct hge hgk hrow hK hbw hgT
        by_cases hp : x.edges[k].prot = 3
        · have hpn : ((x.edges[k].prot) != 3) = false := by simp [hp]
          obtain ⟨EA, EB, hs1, hs2, hsl⟩ := fillTo_split x k hlt hp
          have hFk := HFi k hlt wr ((K0.then HK5.out).then HKR.out)
          have hcIc : Hid (CellsAt wr w.heap.size 0 il) := HC0.out wr (HK5.out.then HKR.out)
          have hfr := findR_ok (x := x) k
          have HFR : Hid ((iv (findR x k)).length = 16) := by show _ = _; rw [iv_len]; exact hfr.1
          have honeF : Hid (∀ u ∈ iv (findR x k), u.oneCell' = true) := iv_one _
          have hfbT : findB x k = true := by rw [decide_eq_true hp] at hgF; simpa using hgF.symm
          rw [hfbT] at hFk
          have hflat : (fillTo x k).flatMap edgCells = (EA.flatMap edgCells ++ iv [x.edges[k].frm, x.edges[k].to, x.edges[k].prot]) ++ (iv x.edges[k].offs ++ (iv x.edges[k].mp ++ EB.flatMap edgCells)) := by
            rw [hs1, fm_append, List.flatMap_cons, edge_split]; simp
          have hflat2 : (fillTo x (k + 1)).flatMap edgCells = (EA.flatMap edgCells ++ iv [x.edges[k].frm, x.edges[k].to, x.edges[k].prot]) ++ (iv (findR x k) ++ (iv x.edges[k].mp ++ EB.flatMap edgCells)) := by
            rw [hs2, fm_append, List.flatMap_cons, edge_split]; simp
          have hEAl : (EA.flatMap edgCells ++ iv [x.edges[k].frm, x.edges[k].to, x.edges[k].prot]).length = k * 23 + 3 := by
            have : (EA.flatMap edgCells).length = EA.length * 23 := edges_flat_len (fun e he => fillTo_lens HOS.out k e (by rw [hs1]; simp [he]))
            rw [List.length_append, this, hsl]; rfl
          have hofl : (iv (findR x k)).length = (iv x.edges[k].offs).length := by rw [iv_len, iv_len, hfr.1, (HOS.out _ (List.getElem_mem hlt)).1]
          have HFL := Lib.hid hflat
          have HFL2 := Lib.hid hflat2
          have HEA := Lib.hid hEAl
          have HOF := Lib.hid hofl
          clear hs1 hs2 hsl hflat hflat2 hEAl hofl hfr hgF hfbT
          generalize iv (findR x k) = fc at *
          go_wp2_with (refine wpList_load_agg rfl 26 (.tmp 1) rfl rfl (cs := il) (by rw [HIC.out]; exact agg_image) hcIc.out ?_)
          refine hFk.out.mono ?_
          rintro e w8 ⟨rfl, k8⟩
          have HK8 := Lib.hid k8
          clear k8 hFk hcIc
          go_wp2_with (refine stop_store 27 (.tmp 8) (.tmp 44) rfl ?_)
          constructor
          refine wpList_store_all rfl 27 (.tmp 8) (.tmp 44) rfl rfl rfl (vs := fc) (by rw [HFR.out]; exact agg_offs.2) (Blk.new _ _ _) honeF.out ?_ ?_
          · rw [HFR.out]; rfl
          intro w9 d9 k9
          have k89 : Keep [] w8 w9 := ((Keep.refl [] w8).alloc _).trans k9 (fun y hy hlt => by simp at hy; omega)
          have HK9 := Lib.hid (HK8.out.then k89)
          have hcD := Lib.hid d9.cellsAt
          clear k9 k89 d9
          have HRow9 := Lib.hid (own_keep0 HRow.out HK9.out)
          obtain ⟨cur, hcur, hbg, hparts⟩ := own_blk HRow9.out
          have HCUR := Lib.hid hcur
          have HPT := Lib.hid hparts
          have HBB := Lib.hid hbg
          have hsz : k * 23 + 3 + 16 ≤ cur.size := by
            obtain ⟨q1, q2, q3, q4⟩ := hparts
            have h2 : x.edges.length * 23 ≤ cp * 23 := Nat.mul_le_mul_right _ q1
            omega
          have HSZ := Lib.hid hsz
          clear hcur hparts hbg hsz
          go_wp2_with (first
            | (refine wpList_load_agg rfl 27 (.tmp 8) rfl rfl (cs := fc) (by rw [HFR.out]; exact agg_offs) hcD.out ?_)
            | refine stop_store 27 (.tmp 67) (.tmp 65) rfl ?_)
          constructor
          refine wpList_store_agg rfl 27 (.tmp 67) (.tmp 65) rfl (f := k * 23 + 3) rfl rfl (vs := fc) (by rw [HFR.out]; exact agg_offs.2) HCUR.out honeF.out (by rw [HFR.out]; exact HSZ.out) ?_
          intro wz dz kz
          rw [← HEA.out] at dz
          have orow := own_splice HRow9.out HBB.out HPT.out HFL.out HOF.out dz
          rw [← HFL2.out] at orow
          have HOR := Lib.hid orow
          have HKZ := Lib.hid ((HK.out.then HK9.out).trans kz (fun y hy _ => hy))
          clear orow dz kz
          go_wp2
          go_roundw
          case rel => exact ⟨k + 1, by omega, by go_num, HOR.out, HKZ.out⟩
          case measure => simp [intOf] <;> omega
        · have hpn : ((x.edges[k].prot) != 3) = true := by simpa using hp
          have hsk := fillTo_skip x k hlt hp
          have HSK := Lib.hid hsk
          clear hsk hgF
          go_wp2
          go_roundw
          case rel => exact ⟨k + 1, by omega, by go_num, by rw [HSK.out]; exact HRow.out, HK.out⟩
          case measure => simp [intOf] <;> omega
      · obtain rfl : k = j := by omega
        have hlt := hj
        have p0 : (0 : Int) ≤ (k : Int) := by omega
        have p1 : (k : Int) < (x.edges.length : Int) := by omega
        have p2 : decide ((k : Int) < (x.edges.length : Int)) = true := decide_eq_true p1
        have hgk := fillTo_get x k k hlt
        rw [if_neg (by omega)] at hgk
        obtain ⟨b, o', hA', hbw, hcs⟩ := (Reads.of_own hrow).elems (fillTo_len x k) (fun e he => edgCells_len (fillTo_lens HOS.out k e he).1 (fillTo_lens HOS.out k e he).2) HN0.out
        injection hA' with hA'
        injection hA' with hb' ho'
        subst hb' ho'
        have hkl : k < (fillTo x k).length := by rw [fillTo_len]; exact hlt
        have hct := hcs k hkl
        have hge : (fillTo x k)[k] = x.edges[k] := by
          have h2 := List.getElem?_eq_getElem (l := fillTo x k) hkl
          rw [hgk] at h2
          exact (Option.some.inj h2).symm
        rw [hge] at hct
        have cp2 : wr.cell? ⟨g, 0 + k * 23 + 2, none⟩ = some (.int .i64 x.edges[k].prot) := hct 2 _ rfl
        have hpk : x.edges[k].prot = 3 := HJP.out.1
        have hpk2 : findB x k = false := HJP.out.2
        rw [Nat.zero_add, hpk] at cp2
        clear hpk
        have HKR := Lib.hid (HKG.out wr hK)
        have hFk := HFi k hlt wr ((K0.then HK5.out).then HKR.out)
        rw [hpk2] at hFk
        clear hpk2
        have hcIc : Hid (CellsAt wr w.heap.size 0 il) := HC0.out wr (HK5.out.then HKR.out)
        have HFR : Hid ((iv (findR x k)).length = 16) := by show _ = _; rw [iv_len]; exact (findR_ok k).1
        have honeF : Hid (∀ u ∈ iv (findR x k), u.oneCell' = true) := iv_one _
        clear hcs hct hge hgk hrow hK hbw
        generalize iv (findR x k) = fc at *
        go_wp2_with (refine wpList_load_agg rfl 26 (.tmp 1) rfl rfl (cs := il) (by rw [HIC.out]; exact agg_image) hcIc.out ?_)
        refine hFk.out.mono ?_
        rintro e w8 ⟨rfl, k8⟩
        have HK8 := Lib.hid (HKR.out.then k8)
        clear k8 hFk hcIc
        go_wp2_with (refine stop_store 27 (.tmp 8) (.tmp 44) rfl ?_)
        constructor
        refine wpList_store_all rfl 27 (.tmp 8) (.tmp 44) rfl rfl rfl (vs := fc) (by rw [HFR.out]; exact agg_offs.2) (Blk.new _ _ _) honeF.out ?_ ?_
        · rw [HFR.out]; rfl
        intro w9 d9 k9
        have k89 : Keep [] w8 w9 := ((Keep.refl [] w8).alloc _).trans k9 (fun y hy hlt => by simp at hy; omega)
        have HK9 := Lib.hid (HK8.out.then k89)
        have hcY := Lib.hid (D5.out.keep0 HK9.out).cellsAt
        have hI0 : ImgAt w9 ⟨none, 0, none, 0, none, 0, []⟩ ⟨0, [], [], []⟩ := ⟨⟨by simp, by simp, by simp, by simp⟩, rfl, Reads.none_, Reads.none_, Reads.none_, fun i h => by simp at h, by simp, by simp, by simp, by simp⟩
        have HSa := Lib.hid (rsame_any ⟨none, 0, none, 0, none, 0, []⟩ ⟨none, 0, none, 0, none, 0, []⟩ ⟨0, [], [], []⟩ ⟨0, [], [], []⟩ w9 hI0 hI0)
        have hdec : decide ((⟨0, [], [], []⟩ : Img) = ⟨0, [], [], []⟩) = true := by simp
        rw [hdec, show imgCells ⟨none, 0, none, 0, none, 0, []⟩ ⟨0, [], [], []⟩ = [.int .i64 0, .slice none 0 0, .slice none 0 0, .slice none 0 0] from rfl] at HSa
        have HAL9 := fun w' (hk : Keep [] w9 w') => HAl w' (((K0.then HK5.out).then HK9.out).then hk)
        clear k9 k89 d9 hI0 hdec
        go_wp2_with (refine wpList_agg_gd rfl 26 (.tmp 3) rfl rfl (cs := [.int .i64 0, .slice none 0 0, .slice none 0 0, .slice none 0 0]) agg_image hcY.out ?_)
        refine HSa.out.mono ?_
        rintro e wa ⟨rfl, ka⟩
        go_wp2_with fail
        refine (HAL9 wa ka).out.mono ?_
        rintro e wl ⟨rfl, kl⟩
        go_wp2
        go_ret
        exact ⟨rfl, (((K0.then HK5.out).then HK9.out).then ka).then kl⟩
end Go.Proofs.YtggjhjbcdnffnaaDoor
