/- Images whose tasks take so many thousandths (the law's scaled). No condition. -/
import Derived.Test.YtnnnjcgddmhdmaaGreatDoorSensX
namespace Go.Proofs.YtnnnjcgddmhdmaaGreatDoor
open Go.RowKit
attribute [local go_sem] Oper.semAt_some

set_option maxRecDepth 100000 in
set_option maxHeartbeats 4000000 in
theorem lscaled_any (v : ImgV) (x : Img) (p : Int) (w : World) (h : ImgAt w v x) (hn : x.tasks.length ≤ 40) (hC : ∀ t ∈ x.tasks, 1 ≤ t.cost ∧ t.cost ≤ 4096) (hp : 0 ≤ p ∧ p ≤ 100001) :
    Calls Tryz.prog 15 #[.agg (imgCells v x).toArray, .int .i64 p] w (RetSet w (scaleI x p)) := by
  obtain ⟨W0, hW0⟩ : ∃ W0, (w.alloc (.cells (imgCells v x).toArray 26)).alloc (.cells #[.int .i64 0, .slice none 0 0, .slice none 0 0, .slice none 0 0] 26) = W0 := ⟨_, rfl⟩
  have b0 : Blk W0 w.heap.size 26 (imgCells v x).toArray := by rw [← hW0]; exact (img_box w v x).alloc _
  have b1 : Blk W0 (w.heap.size + 1) 26 #[.int .i64 0, .slice none 0 0, .slice none 0 0, .slice none 0 0] := by rw [← hW0]; exact Blk.new1 _ _ _ _
  have K0 : Keep [] w W0 := by rw [← hW0]; exact ((Keep.refl [] w).alloc _).alloc _
  have hz0 : W0.heap.size = w.heap.size + 2 := by rw [← hW0]; simp
  have hI0 := h.keep0 K0
  have hO0 : ImgOff [w.heap.size, w.heap.size + 1] v x := h.offHigh (fun y hy => by simp at hy; omega)
  have HLO : Hid (∀ t ∈ x.tasks, t.lon.length = 8) := h.ok.lon
  have HW : Hid ((w.alloc (.cells (imgCells v x).toArray 26)).alloc (.cells #[.int .i64 0, .slice none 0 0, .slice none 0 0, .slice none 0 0] 26) = W0) := hW0
  have HCC := Lib.hid hC
  have HPB := Lib.hid hp
  have HN := Lib.hid hn
  have HZ0 := Lib.hid hz0
  have hlen : Hid (∀ v' j, (imgCells v' (scaleK x p j)).length = 4) := fun _ _ => rfl
  clear h hW0 hC hp hz0
  go_enter Tryz.func15, Tryz.ntmps15
  generalize hil : imgCells v x = il at *
  have HIL := Lib.hid hil
  clear hil
  go_wp2_with (rw [HW.out])
  have c00 := b0.cell 1
  go_loopw [5] (fun vi wr => ∃ (j : Nat) (v' : ImgV), j ≤ x.tasks.length ∧ vi = .int .i64 (j : Int) ∧ ImgAt wr v' (scaleK x p j) ∧ ImgOff [w.heap.size, w.heap.size + 1] v' (scaleK x p j) ∧ Blk wr w.heap.size 26 (imgCells v' (scaleK x p j)).toArray ∧ Blk wr (w.heap.size + 1) 26 #[.int .i64 0, .slice none 0 0, .slice none 0 0, .slice none 0 0] ∧ Keep [] w wr) (fun vi _ => x.tasks.length - (intOf vi).toNat)
  case atStart => exact ⟨0, v, Nat.zero_le _, rfl, by rw [scaleK_zero]; exact hI0, by rw [scaleK_zero]; exact hO0, by rw [scaleK_zero, HIL.out]; exact b0, b1, K0⟩
  case round =>
    clear hI0 hO0 b0 b1 K0 c00
    obtain ⟨j, v', hj, rfl, hI, hO, hb0, hb1, hK⟩ := hrel
    have hsl := scaleK_len x p j
    have hn := HN.out
    have c1 := img_c1 hb0
    rw [hsl] at c1
    by_cases hlt : j < x.tasks.length
    · have hlt2 : j < (scaleK x p j).tasks.length := by rw [hsl]; exact hlt
      obtain ⟨tb, to_, hta, htb, hts⟩ := hI.task (by omega)
      have htj := hts j hlt2
      have hat := scaleK_at x p j hlt
      rw [hat] at htj
      rw [hta] at c1
      have hcb := HCC.out _ (List.getElem_mem hlt)
      have hl8 := HLO.out _ (List.getElem_mem hlt)
      have hsu := scaleK_succ x p j hlt
      have HLW := fun w' (k : Keep [] wr w') => Lib.hid (lwith2_any v' (scaleK x p j) j (scaleT x.tasks[j] p) w' (hI.keep0 k) hlt2 (by rw [hsl]; exact hn) hl8)
      rw [hsu] at HLW
      have HT11 : Hid ((tskCells x.tasks[j]).length = 11) := tskCells_len hl8
      have hTone : Hid (∀ u ∈ tskCells x.tasks[j], u.oneCell' = true) := iv_one _
      have HU11 : Hid ((tskCells (scaleT x.tasks[j] p)).length = 11) := tskCells_len hl8
      have HCo : Hid ((tskCells x.tasks[j])[2]? = some (.int .i64 x.tasks[j].cost)) := show _ = _ from rfl
      have HSE : Hid ((tskCells x.tasks[j]).toArray.setIfInBounds 2 (.int .i64 ((x.tasks[j].cost * p + 999) / 1000)) = (tskCells (scaleT x.tasks[j] p)).toArray) := show _ = _ from rfl
      have HIMC : Hid (∀ w', Keep [] wr w' → CellsAt w' w.heap.size 0 (imgCells v' (scaleK x p j))) := fun w' k => (hb0.keep0 k).cellsAt
      have HL4 := Lib.hid (hlen.out v' j)
      have HLN := Lib.hid (hlen.out)
      have hcT := Lib.hid htj
      have HB0 := Lib.hid hb0
      have HB1 := Lib.hid hb1
      have HK := Lib.hid hK
      have p0 : (0 : Int) ≤ (j : Int) := by omega
      have p1 : (j : Int) < (x.tasks.length : Int) := by omega
      have p2 : decide ((j : Int) < (x.tasks.length : Int)) = true := decide_eq_true p1
      have HO := Lib.hid hO
      clear hI hO hb0 hb1 hK htj hts hat hsu hl8 hlt2 htb hta hsl
      generalize x.tasks[j].cost = ct at *
      generalize tskCells (scaleT x.tasks[j] p) = uc at *
      generalize tskCells x.tasks[j] = tc at *
      generalize hsj : scaleK x p j = sj at *
      generalize imgCells v' sj = jl at *
      go_wp2_with (first
        | (refine wpList_load_agg rfl 33 (.tmp 17) rfl rfl (cs := tc) (by rw [HT11.out]; exact agg_task) hcT.out ?_)
        | (refine stop_store 33 (.tmp 6) (.tmp 18) rfl ?_))
      constructor
      refine wpList_store_all rfl 33 (.tmp 6) (.tmp 18) rfl rfl rfl (vs := tc) (by rw [HT11.out]; exact agg_task.2) (Blk.new _ _ _) hTone.out ?_ ?_
      · rw [HT11.out]; rfl
      intro w4 d4 k4
      have k34 : Keep [] wr w4 := ((Keep.refl [] wr).alloc _).trans k4 (fun y hy hlt => by simp at hy; omega)
      have ec := d4.at_ HCo.out
      have ef := d4.frozen 2
      have d5 := d4.set_ 2 (.int .i64 ((ct * p + 999) / 1000))
      rw [HSE.out] at d5
      have k5 : Keep [] wr (w4.setCell ⟨wr.heap.size, 2, none⟩ (.int .i64 ((ct * p + 999) / 1000))) := k34.trans (keep_set w4 wr.heap.size 2 _) (fun y hy hlt => by simp at hy; omega)
      obtain ⟨w5, hw5⟩ : ∃ w5, w4.setCell ⟨wr.heap.size, 2, none⟩ (.int .i64 ((ct * p + 999) / 1000)) = w5 := ⟨_, rfl⟩
      rw [hw5] at d5 k5
      have hcU := Lib.hid d5.cellsAt
      have hcJ := Lib.hid (HIMC.out w5 k5)
      have HLW5 := HLW w5 k5
      have HW5 := Lib.hid hw5
      have HK5 := Lib.hid k5
      have hpb := HPB.out
      have hpr0 : 0 ≤ ct * p := Int.mul_nonneg (by omega) hpb.1
      have hpr1 : ct * p ≤ 4096 * 100001 := Int.le_trans (Int.mul_le_mul_of_nonneg_right hcb.2 hpb.1) (Int.mul_le_mul_of_nonneg_left hpb.2 (by omega))
      have hw1 : IntKind.i64.wrap (ct * p) = ct * p := IntWalk.i64_in _ (by omega)
      have hw2 : IntKind.i64.wrap (ct * p + 999) = ct * p + 999 := IntWalk.i64_in _ (by omega)
      have hq : (ct * p + 999).tdiv 1000 = (ct * p + 999) / 1000 := Int.tdiv_eq_ediv_of_nonneg (by omega)
      have hw3 : IntKind.i64.wrap ((ct * p + 999) / 1000) = (ct * p + 999) / 1000 := IntWalk.i64_in _ (by omega)
      clear d4 d5 k4 k34 k5 hw5 HLW hcT
      generalize hpp : ct * p = pr at *
      go_wp2_with (first
        | rw [HW5.out]
        | (refine wpList_load_agg rfl 26 (.tmp 2) rfl rfl (cs := jl) (by rw [HL4.out]; exact agg_image) hcJ.out ?_)
        | (refine wpList_load_agg rfl 33 (.tmp 6) rfl rfl (cs := uc) (by rw [HU11.out]; exact agg_task) hcU.out ?_))
      refine HLW5.out.mono ?_
      rintro e w6 ⟨vn, rfl, hIn, k6, hOn⟩
      have HLNn := Lib.hid (HLN.out vn (j + 1))
      have honen : Hid (∀ u ∈ imgCells vn (scaleK x p (j + 1)), u.oneCell' = true) := imgS_one _ _
      have K6 := HK5.out.then k6
      have e0 := HB0.out.keep0 K6
      have e1 := HB1.out.keep0 K6
      generalize hnl : imgCells vn (scaleK x p (j + 1)) = nl at *
      have HNL := Lib.hid hnl
      clear hnl
      go_wp2_with (refine stop_store 26 (.tmp 2) (.tmp 29) rfl ?_)
      constructor
      refine wpList_store_all rfl 26 (.tmp 2) (.tmp 29) rfl rfl rfl (vs := nl) (by rw [HLNn.out]; exact agg_image.2) e0 honen.out ?_ ?_
      · rw [HLNn.out]; show 4 = jl.toArray.size; rw [List.size_toArray, HL4.out]
      intro w7 f0 k7
      have hz0 := HZ0.out
      have hKz := HK.out.size
      have hO7 := hOn [w.heap.size, w.heap.size + 1] (fun y hy => by have := HK5.out.size; have := HB1.out.lt; simp at hy; omega) HO.out
      have hI7 : ImgAt w7 vn (scaleK x p (j + 1)) := hIn.keepF (k7.mono (by simp)) hO7
      have f1 := e1.keep k7 (by simp)
      have K7 : Keep [] w w7 := (HK.out.then K6).trans k7 (fun y hy hlt => by simp at hy; omega)
      have HALL := Lib.hid (And.intro hI7 (And.intro hO7 (And.intro f0 (And.intro f1 K7))))
      clear hIn k6 K6 e0 e1 k7 f0 f1 K7 hI7 hO7 hOn
      go_wp2
      go_roundw
      case rel => exact ⟨j + 1, vn, by omega, by go_num, HALL.out.1, HALL.out.2.1, by rw [HNL.out]; exact HALL.out.2.2.1, HALL.out.2.2.2.1, HALL.out.2.2.2.2⟩
      case measure => simp [intOf] <;> omega
    · obtain rfl : j = x.tasks.length := by omega
      have p2 : decide ((x.tasks.length : Int) < (x.tasks.length : Int)) = false := by simp
      have HL4 := Lib.hid (hlen.out v' x.tasks.length)
      have hone : Hid (∀ u ∈ imgCells v' (scaleK x p x.tasks.length), u.oneCell' = true) := imgS_one _ _
      have hall := scaleK_all x p
      have HIM := Lib.hid hI
      have HO := Lib.hid hO
      have hcI := Lib.hid hb0.cellsAt
      have HB0 := Lib.hid hb0
      have HB1 := Lib.hid hb1
      have HK := Lib.hid hK
      have HX : Hid (imgCells v' (scaleI x p) = imgCells v' (scaleK x p x.tasks.length)) := by show _ = _; rw [hall]
      have HAL := Lib.hid hall
      clear hI hO hb0 hb1 hK hall
      generalize imgCells v' (scaleK x p x.tasks.length) = jl at *
      go_wp2_with (first
        | (refine wpList_load_agg rfl 26 (.tmp 2) rfl rfl (cs := jl) (by rw [HL4.out]; exact agg_image) hcI.out ?_)
        | (refine stop_store 26 (.tmp 4) (.tmp 30) rfl ?_))
      constructor
      refine wpList_store_all rfl 26 (.tmp 4) (.tmp 30) rfl rfl rfl (vs := jl) (by rw [HL4.out]; exact agg_image.2) HB1.out hone.out ?_ ?_
      · rw [HL4.out]; rfl
      intro w5 e5 k5
      go_wp2
      refine bodyPost_ret (results_blk rfl _ rfl e5 (by rw [HL4.out]; exact agg_image)) rfl ?_
      have K5 : Keep [] w w5 := HK.out.trans k5 (fun y hy hlt => by simp at hy; omega)
      have hI5 := HIM.out.keepF (k5.mono (by simp)) HO.out
      rw [HAL.out] at hI5
      exact ⟨v', by rw [HX.out], hI5, K5⟩
end Go.Proofs.YtnnnjcgddmhdmaaGreatDoor
