/- The law's Do, walked: Program, Arm, Power; and all calls together. -/
import Derived.Test.YtgonnddgljgghaaLaw06Do
namespace Go.Proofs.Ytgonnddgljgghaa
open Go.RowKit

section
variable (base g b1 b2 : Nat) (G : List Nat) (A1 A2 : Option Addr) (c1 c2 : Nat) (d : Dev) (o : FOp) (w : World) (hd : DevAt w g b1 b2 d) (hr : ROwn base (g :: b1 :: b2 :: G) w A1 A2 c1 c2 d) (ho : d.Ok) (hbase : base ≤ w.heap.size) (hw : o.w < 4294967296) (hG : ∀ x ∈ G, x < w.heap.size)
include hd hr ho hbase hw hG

set_option maxRecDepth 100000 in
set_option maxHeartbeats 500000 in
theorem do_prog (hk : kindM o.kind < 4) :
    Calls Try.prog 48 #[.pointer (some ⟨g, 0, none⟩), .agg (refV d A1 A2 c1 c2).toArray, .agg (fopCells o).toArray] w (RetDo base G w g b1 b2 (doS d o)) := by
  obtain ⟨e0, e1, e2, k1, hsz⟩ := box3_facts w (refV d A1 A2 c1 c2) o
  have HW : Hid (((w.alloc (.cells (refV d A1 A2 c1 c2).toArray 78)).alloc (.cells (fopCells o).toArray 85)).alloc (.cells zeroD 78) = box3 w (refV d A1 A2 c1 c2) o) := show _ = _ from rfl
  generalize box3 w (refV d A1 A2 c1 c2) o = W at *
  have HS : Hid (doS d o = (progS d o.sector o.word o.w).1) := by show _ = _; unfold doS; rw [if_neg (by omega), if_neg (by omega), if_neg (by omega), if_neg (by omega)]
  have HA : Hid (AggOf Try.prog 78 10) := agg_ref
  have o0 := e1.cell 0
  have o1 := e1.cell 1
  have o2 := e1.cell 2
  have o3 := e1.cell 3
  simp at o0 o1 o2 o3
  have hl0 := hd.dev.lt
  have hl1 := hd.bits.lt
  have hl2 := hd.worn.lt
  obtain ⟨m1, m2, m3⟩ := kindM_facts o.kind
  have n4 : ((o.kind.tmod 8 + 8) % 8 == 4) = false := by simp; omega
  have n5 : ((o.kind.tmod 8 + 8) % 8 == 5) = false := by simp; omega
  have n6 : ((o.kind.tmod 8 + 8) % 8 == 6) = false := by simp; omega
  have n7 : ((o.kind.tmod 8 + 8) % 8 == 7) = false := by simp; omega
  clear m3
  have E0 := Lib.hid e0
  have E1 := Lib.hid e1
  have E2 := Lib.hid e2
  have K1 := Lib.hid k1
  have HD := Lib.hid (hd.keep k1 (by simp) (by simp) (by simp))
  have HRo := Lib.hid (hr.keep0 k1)
  have HRC := fun W (h : ROwn base (g :: b1 :: b2 :: G) W A1 A2 c1 c2 d) (hW : w.heap.size ≤ W.heap.size) => Lib.hid (rprog_any base (g :: b1 :: b2 :: G) A1 A2 c1 c2 d W h ho (hltG g b1 b2 G w W hl0 hl1 hl2 hG hW) (by omega) o.sector o.word o.w hw)
  have HFC := fun W (h : DevAt W g b1 b2 d) => Lib.hid (fprog_any g b1 b2 d o.sector o.word o.w W h ho hw)
  clear e0 e1 e2 k1 hd hr ho hk
  go_enter Try.func48, Try.ntmps48
  go_wp2_with (first | rw [HW.out] | refine stop_load 78 (.tmp 4) rfl ?_)
  constructor
  refine wpList_load_agg rfl 78 (.tmp 4) rfl rfl (cs := refV d A1 A2 c1 c2) HA.out E0.out.cellsAt ?_
  go_wp2_with fail
  have hsz1 := K1.out.size
  refine (HRC W HRo.out hsz1).out.mono ?_
  rintro e W2 ⟨A1', A2', c1', c2', rfl, hro, k2⟩
  have F0 := Lib.hid (E0.out.keep0 k2)
  have F2 := Lib.hid (E2.out.keep0 k2)
  have HD2 := Lib.hid (HD.out.keep k2 (by simp) (by simp) (by simp))
  have K2 := Lib.hid (K1.out.then k2)
  have HRO2 := Lib.hid hro
  have hs2 := k2.size
  have O1 := Lib.hid (k2)
  clear hro k2 HRC HRo HD E0 E2
  go_wp2_with (refine stop_store 78 (.tmp 4) (.tmp 71) rfl ?_)
  constructor
  refine wpList_store_all rfl 78 (.tmp 4) (.tmp 71) rfl rfl rfl (t := 78) (cs := (refV d A1 A2 c1 c2).toArray) (vs := refV (progS d o.sector o.word o.w).1 A1' A2' c1' c2') HA.out.2 F0.out (refV_one _ _ _ _ _) rfl ?_
  have hlr1 : ∀ y, (Value.slice A1' (progS d o.sector o.word o.w).1.bits.length c1').ownBlock = some y → y ∉ [w.heap.size] := fun y hy hm => HRO2.out.notBlk1 F0.out (by decide) hy (by simpa using hm)
  have hlr2 : ∀ y, (Value.slice A2' (progS d o.sector o.word o.w).1.worn.length c2').ownBlock = some y → y ∉ [w.heap.size] := fun y hy hm => HRO2.out.notBlk2 F0.out (by decide) hy (by simpa using hm)
  have hlr3 : ∀ y, (Value.slice A1' (progS d o.sector o.word o.w).1.bits.length c1').ownBlock = some y → y ∉ [w.heap.size + 2] := fun y hy hm => HRO2.out.notBlk1 F2.out (by decide) hy (by simpa using hm)
  have hlr4 : ∀ y, (Value.slice A2' (progS d o.sector o.word o.w).1.worn.length c2').ownBlock = some y → y ∉ [w.heap.size + 2] := fun y hy hm => HRO2.out.notBlk2 F2.out (by decide) hy (by simpa using hm)
  intro W3 d3 k3
  have hk3 := K2.out.trans k3 (by simp)
  have D3 := Lib.hid d3
  have f3 := F2.out.keep k3 (by simp)
  have f3s := Lib.hid (k3.size)
  have HD3 := Lib.hid (HD2.out.keep k3 (by simp; omega) (by simp; omega) (by simp; omega))
  have hro3 : ROwn base (g :: b1 :: b2 :: G) W3 A1' A2' c1' c2' (progS d o.sector o.word o.w).1 := by
    exact HRO2.out.keepLt k3 hlr1 hlr2
  have HRO3 := Lib.hid hro3
  have hp1 := E1.out.keep0 O1.out
  have hp1' := hp1.keep k3 (by simp)
  generalize hL : (progS d o.sector o.word o.w).1 = d' at *
  have F3 := Lib.hid f3
  have hs3 := hk3.size
  have HK3 := Lib.hid (hk3.mono (G := [g, b1, b2]) (by simp))
  have hb3 : w.heap.size + 3 ≤ W3.heap.size := by have := f3s.out; omega
  have KP := Lib.hid k3
  have hS0 : Blk W3 w.heap.size 78 (refV d' A1' A2' c1' c2').toArray ∧ Blk W3 (w.heap.size + 1) 85 (fopCells o).toArray := ⟨d3, hp1'⟩
  have HS0 := Lib.hid hS0
  clear d3 k3 hro3 hp1 o0 o1 o2 o3 f3 hlr1 hlr2 hk3 hp1' hS0 D3
  go_upto_region 16 with fail
  refine wp_region_held_drew (by kernel_rfl) (S := fun w' => Blk w' w.heap.size 78 (refV d' A1' A2' c1' c2').toArray ∧ Blk w' (w.heap.size + 1) 85 (fopCells o).toArray) HS0.out (fun hS => ?_)
  refine ah_load (cs := refV d' A1' A2' c1' c2') 0 rfl (by kernel_rfl) (by kernel_rfl) (by kernel_rfl) (fun _ _ _ h => h) rfl HA.out (fun _ h => h.1.cellsAt) hS ?_
  refine ah_take 1 rfl (by kernel_rfl) (by kernel_rfl) (by kernel_rfl) (fun _ _ _ h => h) (fun _ _ => rfl) hS ?_
  (simp only [Act.put, List.setIfInBounds_toArray, List.set_cons_zero, List.set_cons_succ])
  refine ah_take (v := .pointer (some ⟨w.heap.size + 1, 1, none⟩)) 2 rfl (by kernel_rfl) (by kernel_rfl) (by kernel_rfl) (fun _ _ _ h => h) (fun w' _ => by go_simp) hS ?_
  refine ah_take (v := .int .i64 o.sector) 3 rfl (by kernel_rfl) (by kernel_rfl) (by kernel_rfl) (fun _ _ _ h => h) (fun w' h => by have h2 := h.2.cell 1; simp at h2; go_simp) hS ?_
  (simp only [Act.put, List.setIfInBounds_toArray, List.set_cons_zero, List.set_cons_succ])
  refine ah_take (v := .pointer (some ⟨w.heap.size + 1, 2, none⟩)) 4 rfl (by kernel_rfl) (by kernel_rfl) (by kernel_rfl) (fun _ _ _ h => h) (fun w' _ => by go_simp) hS ?_
  refine ah_take (v := .int .i64 o.word) 5 rfl (by kernel_rfl) (by kernel_rfl) (by kernel_rfl) (fun _ _ _ h => h) (fun w' h => by have h2 := h.2.cell 2; simp at h2; go_simp) hS ?_
  (simp only [Act.put, List.setIfInBounds_toArray, List.set_cons_zero, List.set_cons_succ])
  refine ah_take (v := .pointer (some ⟨w.heap.size + 1, 3, none⟩)) 6 rfl (by kernel_rfl) (by kernel_rfl) (by kernel_rfl) (fun _ _ _ h => h) (fun w' _ => by go_simp) hS ?_
  refine ah_take (v := .int .u32 (o.w : Int)) 7 rfl (by kernel_rfl) (by kernel_rfl) (by kernel_rfl) (fun _ _ _ h => h) (fun w' h => by have h2 := h.2.cell 3; simp at h2; go_simp) hS ?_
  (simp only [Act.put, List.setIfInBounds_toArray, List.set_cons_zero, List.set_cons_succ])
  refine ah_take (v := .int .i64 (progS d o.sector o.word o.w).2) 9 rfl (by kernel_rfl) (by kernel_rfl) (by kernel_rfl) (fun _ _ _ h => h) (fun _ _ => rfl) hS ?_
  (simp only [Act.put, List.setIfInBounds_toArray, List.set_cons_zero, List.set_cons_succ])
  refine ah_call (vs := #[.pointer (some ⟨g, 0, none⟩), .int .i64 o.sector, .int .i64 o.word, .int .u32 (o.w : Int)]) 8 rfl (by kernel_rfl) (by simp only [List.map_toArray, List.map_cons, List.map_nil]; rfl) Try.func71 (by kernel_rfl) (by kernel_rfl) (HFC _ (HD3.out.keep ((Keep.refl [] W3).drew) (by simp) (by simp) (by simp))).out ?_
  rintro e w4 ⟨rfl, hd4, k4⟩
  refine ⟨_, rfl, ⟨hS.1.keep k4 (by simp; omega), hS.2.keep k4 (by simp; omega)⟩, ?_⟩
  refine ah_take (v := .bool true) 10 rfl (by kernel_rfl) (by kernel_rfl) (by kernel_rfl) (fun _ _ _ h => h) (fun w' _ => by go_simp) ⟨hS.1.keep k4 (by simp; omega), hS.2.keep k4 (by simp; omega)⟩ ?_
  have f4 := (F3.out.drew).keep k4 (by simp; omega)
  (simp only [Act.put, List.setIfInBounds_toArray, List.set_cons_zero, List.set_cons_succ])
  refine ah_store (t := 78) (cs := zeroD) (vs := refV d' A1' A2' c1' c2') 11 rfl (by kernel_rfl) rfl rfl HA.out.2 f4 (refV_one _ _ _ _ _) rfl ?_
  intro w5 d5 k5
  have hS5 : Blk w5 w.heap.size 78 (refV d' A1' A2' c1' c2').toArray ∧ Blk w5 (w.heap.size + 1) 85 (fopCells o).toArray := by
    have h1 := hS.1.keep k4 (by simp; omega)
    exact ⟨h1.keep k5 (by simp; omega), (hS.2.keep k4 (by simp; omega)).keep k5 (by simp)⟩
  refine ⟨hS5, ?_⟩
  refine ah_take 12 rfl (by kernel_rfl) (by kernel_rfl) (by kernel_rfl) (fun _ _ _ h => h) (fun _ _ => rfl) hS5 ?_
  refine wpAnyH_done (by kernel_rfl) ?_ _
  simp only [Act.put, List.setIfInBounds_toArray, List.set_cons_zero, List.set_cons_succ]
  have HF1 := Lib.hid ((hd4.keep k5 (by simp; omega) (by simp; omega) (by simp; omega)))
  have HF2 : Hid (ROwn base (g :: b1 :: b2 :: G) w5 A1' A2' c1' c2' d') := ((HRO3.out.keep0 ((Keep.refl [] W3).drew)).keep (k4.mono (memG g b1 b2 G))).keepLt k5 hlr3 hlr4
  have HF3 : Hid (Keep [g, b1, b2] w w5) := ((HK3.out.drew.trans k4 (fun x hx _ => hx)).trans k5 (by simp; omega))
  clear hd4 k4 k5 hS hS5
  go_wp2_with fail
  refine bodyPost_ret (results_blk_tmp rfl _ rfl rfl d5 HA.out) rfl ?_
  rw [HS.out]
  exact ⟨A1', A2', c1', c2', rfl, HF1.out, HF2.out, HF3.out⟩
end

section
variable (base g b1 b2 : Nat) (G : List Nat) (A1 A2 : Option Addr) (c1 c2 : Nat) (d : Dev) (o : FOp) (w : World) (hd : DevAt w g b1 b2 d) (hr : ROwn base (g :: b1 :: b2 :: G) w A1 A2 c1 c2 d)
include hd hr
set_option maxRecDepth 100000 in
set_option maxHeartbeats 1000000 in
theorem do_arm (hk : kindM o.kind = 5) :
    Calls Try.prog 48 #[.pointer (some ⟨g, 0, none⟩), .agg (refV d A1 A2 c1 c2).toArray, .agg (fopCells o).toArray] w (RetDo base G w g b1 b2 (doS d o)) := by
  obtain ⟨e0, e1, e2, k1, hsz⟩ := box3_facts w (refV d A1 A2 c1 c2) o
  have HW : Hid (((w.alloc (.cells (refV d A1 A2 c1 c2).toArray 78)).alloc (.cells (fopCells o).toArray 85)).alloc (.cells zeroD 78) = box3 w (refV d A1 A2 c1 c2) o) := show _ = _ from rfl
  generalize box3 w (refV d A1 A2 c1 c2) o = W at *
  have HA : Hid (AggOf Try.prog 78 10) := agg_ref
  have o0 := e1.cell 0
  have o2 := e1.cell 2
  have o3 := e1.cell 3
  simp at o0 o2 o3
  have hl0 := hd.dev.lt
  have hl1 := hd.bits.lt
  have hl2 := hd.worn.lt
  obtain ⟨m1, m2, m3⟩ := kindM_facts o.kind
  have hs0 : w.heap.size < W.heap.size := by omega
  have hs1 : w.heap.size + 1 < W.heap.size := by omega
  have hs2 : w.heap.size + 1 + 1 < W.heap.size := by omega
  have E0 := Lib.hid e0
  have E1 := Lib.hid e1
  have E2 := Lib.hid e2
  have K1 := Lib.hid k1
  have HD := Lib.hid (hd.keep k1 (by simp) (by simp) (by simp))
  have HRo := Lib.hid (hr.keep0 k1)
  have HS : Hid (doS d o = armS d o.word o.w) := by show _ = _; unfold doS; rw [if_neg (by omega), if_pos hk]
  rw [hk] at m3
  have HFC := fun W (h : DevAt W g b1 b2 d) => Lib.hid (farm_any g b1 b2 d o.word o.w W h)
  have HRC := fun W => Lib.hid (rarm_any A1 A2 c1 c2 d o.word o.w W)
  clear e0 e1 e2 k1 hd hr hk hsz
  go_enter Try.func48, Try.ntmps48
  go_wp2_with (first | rw [HW.out] | refine stop_load 78 (.tmp 4) rfl ?_)
  refine (HFC W HD.out).out.mono ?_
  rintro e W2 ⟨rfl, hd2, k2⟩
  have p2 := (E1.out.keep k2 (by simp; omega)).cell 2
  have p3 := (E1.out.keep k2 (by simp; omega)).cell 3
  simp at p2 p3
  have F0 := Lib.hid (E0.out.keep k2 (by simp; omega))
  have F2 := Lib.hid (E2.out.keep k2 (by simp; omega))
  have HD2 := Lib.hid hd2
  have K2 := Lib.hid (k2)
  clear hd2 k2 o0 o2 o3 HFC HD E0 E1 E2
  go_wp2_with (refine wpList_load_agg rfl 78 (.tmp 4) rfl rfl (cs := refV d A1 A2 c1 c2) HA.out ?_ ?_; exact F0.out.cellsAt)
  refine (HRC W2).out.mono ?_
  rintro e W3 ⟨rfl, k3⟩
  have G2 := Lib.hid (F2.out.keep0 k3)
  have HD3 := Lib.hid (HD2.out.keep k3 (by simp) (by simp) (by simp))
  have K3 := Lib.hid k3
  clear k3
  go_wp2_with (refine stop_store 78 (.tmp 6) (.tmp 45) rfl ?_)
  constructor
  refine wpList_store_all rfl 78 (.tmp 6) (.tmp 45) rfl rfl rfl (t := 78) (cs := zeroD) (vs := refV (armS d o.word o.w) A1 A2 c1 c2) HA.out.2 G2.out (refV_one _ _ _ _ _) rfl ?_
  intro w5 d5 k5
  have HF1 := Lib.hid (HD3.out.keep k5 (by simp; omega) (by simp; omega) (by simp; omega))
  have hro2 := (HRo.out.keepLt K2.out (fun y hy hm => HRo.out.off1 y hy (by simp at hm; simp [hm])) (fun y hy hm => HRo.out.off2 y hy (by simp at hm; simp [hm]))).keep0 K3.out
  have hro3 := hro2.keepLt k5 (fun y hy hm => hro2.notBlk1 G2.out (by decide) hy (by simpa using hm)) (fun y hy hm => hro2.notBlk2 G2.out (by decide) hy (by simpa using hm))
  have HF2 : Hid (ROwn base (g :: b1 :: b2 :: G) w5 A1 A2 c1 c2 (armS d o.word o.w)) := ⟨hro3.bits, hro3.worn, hro3.off1, hro3.off2⟩
  have HF3 : Hid (Keep [g, b1, b2] w w5) := (((K1.out.mono (G := [g, b1, b2]) (by simp)).trans K2.out (by simp)).then K3.out).trans k5 (by simp; omega)
  clear k5 hro2 hro3
  go_wp2_with fail
  refine bodyPost_ret (results_blk_tmp rfl _ rfl rfl d5 HA.out) rfl ?_
  rw [HS.out]
  exact ⟨A1, A2, c1, c2, rfl, HF1.out, HF2.out, HF3.out⟩

set_option maxRecDepth 100000 in
set_option maxHeartbeats 1000000 in
theorem do_power (b : Bool) (hk : kindM o.kind = if b then 6 else 7) :
    Calls Try.prog 48 #[.pointer (some ⟨g, 0, none⟩), .agg (refV d A1 A2 c1 c2).toArray, .agg (fopCells o).toArray] w (RetDo base G w g b1 b2 (doS d o)) := by
  obtain ⟨e0, e1, e2, k1, hsz⟩ := box3_facts w (refV d A1 A2 c1 c2) o
  have HW : Hid (((w.alloc (.cells (refV d A1 A2 c1 c2).toArray 78)).alloc (.cells (fopCells o).toArray 85)).alloc (.cells zeroD 78) = box3 w (refV d A1 A2 c1 c2) o) := show _ = _ from rfl
  generalize box3 w (refV d A1 A2 c1 c2) o = W at *
  have HA : Hid (AggOf Try.prog 78 10) := agg_ref
  have o0 := e1.cell 0
  have o2 := e1.cell 2
  have o3 := e1.cell 3
  simp at o0 o2 o3
  have hl0 := hd.dev.lt
  have hl1 := hd.bits.lt
  have hl2 := hd.worn.lt
  obtain ⟨m1, m2, m3⟩ := kindM_facts o.kind
  have hs0 : w.heap.size < W.heap.size := by omega
  have hs1 : w.heap.size + 1 < W.heap.size := by omega
  have hs2 : w.heap.size + 1 + 1 < W.heap.size := by omega
  have E0 := Lib.hid e0
  have E1 := Lib.hid e1
  have E2 := Lib.hid e2
  have K1 := Lib.hid k1
  have HD := Lib.hid (hd.keep k1 (by simp) (by simp) (by simp))
  have HRo := Lib.hid (hr.keep0 k1)
  have HS : Hid (doS d o = powerS d b) := by show _ = _; unfold doS; cases b <;> simp at hk <;> simp [hk]
  have HFC := fun W (h : DevAt W g b1 b2 d) => Lib.hid (fpower_any g b1 b2 d b W h)
  have c5 := E0.out.cell 5
  rw [(ref_cells d A1 A2 c1 c2).2.2.2.2.2.1] at c5
  clear e0 e1 e2 k1 hd hr hsz
  cases b
  · simp at hk
    rw [hk] at m3
    have HSB : Hid (doS d o = powerS d false) := HS.out
    clear HS hk
    go_enter Try.func48, Try.ntmps48
    go_wp2_with (first | rw [HW.out] | refine stop_load 78 (.tmp 4) rfl ?_)
    refine (HFC W HD.out).out.mono ?_
    rintro e W2 ⟨rfl, hd2, k2⟩
    have f0 := E0.out.keep k2 (by simp; omega)
    have q5 := f0.cell 5
    have y5 := f0.frozen 5
    rw [(ref_cells d A1 A2 c1 c2).2.2.2.2.2.1] at q5
    have F0 := Lib.hid f0
    have F2 := Lib.hid (E2.out.keep k2 (by simp; omega))
    have HD2 := Lib.hid hd2
    have K2 := Lib.hid (k2)
    clear hd2 k2 o0 o2 o3 HFC HD E0 E1 E2 c5 f0
    go_wp2_with (refine stop_load 78 (.tmp 4) rfl ?_)
    constructor
    refine wpList_load_agg rfl 78 (.tmp 4) rfl rfl (cs := refV (powerS d false) A1 A2 c1 c2) HA.out (Blk.cellsAt (Blk.cast (F0.out.set_ 5 (.bool true)) rfl)) ?_
    have G2 := Lib.hid (F2.out.far (p := ⟨w.heap.size, 5, none⟩) (by simp) (.bool true))
    go_wp2_with (refine stop_store 78 (.tmp 6) (.tmp 61) rfl ?_)
    constructor
    refine wpList_store_all rfl 78 (.tmp 6) (.tmp 61) rfl rfl rfl (t := 78) (cs := zeroD) (vs := refV (powerS d false) A1 A2 c1 c2) HA.out.2 G2.out (refV_one _ _ _ _ _) rfl ?_
    intro w5 d5 k5
    have ks := keep_set W2 w.heap.size 5 (.bool true)
    have HF1 := Lib.hid ((HD2.out.keep ks (by simp; omega) (by simp; omega) (by simp; omega)).keep k5 (by simp; omega) (by simp; omega) (by simp; omega))
    have hro2 := HRo.out.keepLt K2.out (fun y hy hm => HRo.out.off1 y hy (by simp at hm; simp [hm])) (fun y hy hm => HRo.out.off2 y hy (by simp at hm; simp [hm]))
    have hro2' := hro2.keepLt ks (fun y hy hm => hro2.notBlk1 F0.out (by decide) hy (by simpa using hm)) (fun y hy hm => hro2.notBlk2 F0.out (by decide) hy (by simpa using hm))
    have hro3 := hro2'.keepLt k5 (fun y hy hm => hro2'.notBlk1 G2.out (by decide) hy (by simpa using hm)) (fun y hy hm => hro2'.notBlk2 G2.out (by decide) hy (by simpa using hm))
    have HF2 : Hid (ROwn base (g :: b1 :: b2 :: G) w5 A1 A2 c1 c2 (powerS d false)) := ⟨hro3.bits, hro3.worn, hro3.off1, hro3.off2⟩
    have HF3 : Hid (Keep [g, b1, b2] w w5) := ((((K1.out.mono (G := [g, b1, b2]) (by simp)).trans K2.out (by simp)).trans ks (by simp)).trans k5 (by simp; omega))
    clear k5 hro2 hro3 hro2' ks
    go_wp2_with fail
    refine bodyPost_ret (results_blk_tmp rfl _ rfl rfl d5 HA.out) rfl ?_
    rw [HSB.out]
    exact ⟨A1, A2, c1, c2, rfl, HF1.out, HF2.out, HF3.out⟩
  · simp at hk
    rw [hk] at m3
    have HSB : Hid (doS d o = powerS d true) := HS.out
    clear HS hk
    go_enter Try.func48, Try.ntmps48
    go_wp2_with (first | rw [HW.out] | refine stop_load 78 (.tmp 4) rfl ?_)
    refine (HFC W HD.out).out.mono ?_
    rintro e W2 ⟨rfl, hd2, k2⟩
    have f0 := E0.out.keep k2 (by simp; omega)
    have q5 := f0.cell 5
    have y5 := f0.frozen 5
    rw [(ref_cells d A1 A2 c1 c2).2.2.2.2.2.1] at q5
    have F0 := Lib.hid f0
    have F2 := Lib.hid (E2.out.keep k2 (by simp; omega))
    have HD2 := Lib.hid hd2
    have K2 := Lib.hid (k2)
    clear hd2 k2 o0 o2 o3 HFC HD E0 E1 E2 c5 f0
    go_wp2_with (refine stop_load 78 (.tmp 4) rfl ?_)
    constructor
    refine wpList_load_agg rfl 78 (.tmp 4) rfl rfl (cs := refV (powerS d true) A1 A2 c1 c2) HA.out (Blk.cellsAt (Blk.cast (F0.out.set_ 5 (.bool false)) rfl)) ?_
    have G2 := Lib.hid (F2.out.far (p := ⟨w.heap.size, 5, none⟩) (by simp) (.bool false))
    go_wp2_with (refine stop_store 78 (.tmp 6) (.tmp 61) rfl ?_)
    constructor
    refine wpList_store_all rfl 78 (.tmp 6) (.tmp 61) rfl rfl rfl (t := 78) (cs := zeroD) (vs := refV (powerS d true) A1 A2 c1 c2) HA.out.2 G2.out (refV_one _ _ _ _ _) rfl ?_
    intro w5 d5 k5
    have ks := keep_set W2 w.heap.size 5 (.bool false)
    have HF1 := Lib.hid ((HD2.out.keep ks (by simp; omega) (by simp; omega) (by simp; omega)).keep k5 (by simp; omega) (by simp; omega) (by simp; omega))
    have hro2 := HRo.out.keepLt K2.out (fun y hy hm => HRo.out.off1 y hy (by simp at hm; simp [hm])) (fun y hy hm => HRo.out.off2 y hy (by simp at hm; simp [hm]))
    have hro2' := hro2.keepLt ks (fun y hy hm => hro2.notBlk1 F0.out (by decide) hy (by simpa using hm)) (fun y hy hm => hro2.notBlk2 F0.out (by decide) hy (by simpa using hm))
    have hro3 := hro2'.keepLt k5 (fun y hy hm => hro2'.notBlk1 G2.out (by decide) hy (by simpa using hm)) (fun y hy hm => hro2'.notBlk2 G2.out (by decide) hy (by simpa using hm))
    have HF2 : Hid (ROwn base (g :: b1 :: b2 :: G) w5 A1 A2 c1 c2 (powerS d true)) := ⟨hro3.bits, hro3.worn, hro3.off1, hro3.off2⟩
    have HF3 : Hid (Keep [g, b1, b2] w w5) := ((((K1.out.mono (G := [g, b1, b2]) (by simp)).trans K2.out (by simp)).trans ks (by simp)).trans k5 (by simp; omega))
    clear k5 hro2 hro3 hro2' ks
    go_wp2_with fail
    refine bodyPost_ret (results_blk_tmp rfl _ rfl rfl d5 HA.out) rfl ?_
    rw [HSB.out]
    exact ⟨A1, A2, c1, c2, rfl, HF1.out, HF2.out, HF3.out⟩

end

section
variable (base g b1 b2 : Nat) (G : List Nat) (A1 A2 : Option Addr) (c1 c2 : Nat) (d : Dev) (o : FOp) (w : World) (hd : DevAt w g b1 b2 d) (hr : ROwn base (g :: b1 :: b2 :: G) w A1 A2 c1 c2 d) (ho : d.Ok) (hbase : base ≤ w.heap.size) (hw : o.w < 4294967296) (hG : ∀ x ∈ G, x < w.heap.size)
include hd hr ho hbase hw hG
theorem do_any : Calls Try.prog 48 #[.pointer (some ⟨g, 0, none⟩), .agg (refV d A1 A2 c1 c2).toArray, .agg (fopCells o).toArray] w (RetDo base G w g b1 b2 (doS d o)) := by
  have hr' := kindM_range o.kind
  have hc : kindM o.kind = 4 ∨ kindM o.kind = 5 ∨ kindM o.kind = 6 ∨ kindM o.kind = 7 ∨ kindM o.kind < 4 := by omega
  rcases hc with h | h | h | h | h
  · exact do_erase base g b1 b2 G A1 A2 c1 c2 d o w hd hr ho hbase hG h
  · exact do_arm base g b1 b2 G A1 A2 c1 c2 d o w hd hr h
  · exact do_power base g b1 b2 G A1 A2 c1 c2 d o w hd hr true h
  · exact do_power base g b1 b2 G A1 A2 c1 c2 d o w hd hr false h
  · exact do_prog base g b1 b2 G A1 A2 c1 c2 d o w hd hr ho hbase hw hG h
end
end Go.Proofs.Ytgonnddgljgghaa
