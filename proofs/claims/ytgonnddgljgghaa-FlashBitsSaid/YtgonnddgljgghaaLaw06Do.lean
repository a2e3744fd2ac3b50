/- The law's Do, walked: device and reference go the same step. -/
import Derived.Test.YtgonnddgljgghaaFlashOk
import Derived.Test.YtgonnddgljgghaaReg
namespace Go.Proofs.Ytgonnddgljgghaa
open Go.RowKit

theorem hltG (g b1 b2 : Nat) (G : List Nat) (w W : World) (h0 : g < w.heap.size) (h1 : b1 < w.heap.size) (h2 : b2 < w.heap.size) (hG : ∀ x ∈ G, x < w.heap.size) (hW : w.heap.size ≤ W.heap.size) : ∀ x ∈ g :: b1 :: b2 :: G, x < W.heap.size := by
  intro x hx
  simp only [List.mem_cons] at hx
  rcases hx with rfl | rfl | rfl | hx
  · omega
  · omega
  · omega
  · have := hG x hx; omega
theorem memG3 (g b1 b2 : Nat) (G : List Nat) (x : Nat) (hx : x ∈ [g, b1, b2]) : x ∈ g :: b1 :: b2 :: G := by
  simp only [List.mem_cons, List.not_mem_nil, or_false] at hx
  simp only [List.mem_cons]
  rcases hx with h | h | h
  · exact .inl h
  · exact .inr (.inl h)
  · exact .inr (.inr (.inl h))
theorem memG (g b1 b2 : Nat) (G : List Nat) {a : World} : ∀ x, x ∈ [g, b1, b2] → x < a.heap.size → x ∈ g :: b1 :: b2 :: G := fun x hx _ => memG3 g b1 b2 G x hx
def RetDo (base : Nat) (G : List Nat) (w : World) (g b1 b2 : Nat) (d : Dev) (en : Ending) (w' : World) : Prop :=
  ∃ A1 A2 c1 c2, en = .returned (.tuple #[.agg (refV d A1 A2 c1 c2).toArray, .bool true]) ∧ DevAt w' g b1 b2 d ∧ ROwn base (g :: b1 :: b2 :: G) w' A1 A2 c1 c2 d ∧ Keep [g, b1, b2] w w'
/-- The boxed arguments and the result's cells. -/
def box3 (w : World) (L : List Value) (o : FOp) : World := ((w.alloc (.cells L.toArray 78)).alloc (.cells (fopCells o).toArray 85)).alloc (.cells zeroD 78)
theorem box3_facts (w : World) (L : List Value) (o : FOp) : Blk (box3 w L o) w.heap.size 78 L.toArray ∧ Blk (box3 w L o) (w.heap.size + 1) 85 (fopCells o).toArray ∧ Blk (box3 w L o) (w.heap.size + 2) 78 zeroD ∧ Keep [] w (box3 w L o) ∧ (box3 w L o).heap.size = w.heap.size + 3 := by
  obtain ⟨h1, h2, h3, h4⟩ := alloc3 w L.toArray (fopCells o).toArray zeroD 78 85 78
  exact ⟨h1, h2, h3, h4, by simp [box3]⟩

theorem kindM_facts (k : Int) : -8 < k.tmod 8 ∧ k.tmod 8 < 8 ∧ (k.tmod 8 + 8) % 8 = kindM k := by
  have h1 : -8 < k.tmod 8 := Int.lt_tmod_of_pos k (by decide)
  have h2 : k.tmod 8 < 8 := Int.tmod_lt_of_pos k (by decide)
  refine ⟨h1, h2, ?_⟩
  unfold kindM
  exact (Int.tmod_eq_emod_of_nonneg (by omega)).symm

theorem ROwn.keepLt {base : Nat} {F G : List Nat} {w w' : World} {A1 A2 : Option Addr} {c1 c2 : Nat} {d : Dev} (h : ROwn base F w A1 A2 c1 c2 d) (k : Keep G w w') (h1 : ∀ y, (Value.slice A1 d.bits.length c1).ownBlock = some y → y ∉ G) (h2 : ∀ y, (Value.slice A2 d.worn.length c2).ownBlock = some y → y ∉ G) :
    ROwn base F w' A1 A2 c1 c2 d := ⟨own_keep h.bits k h1, own_keep h.worn k h2, h.off1, h.off2⟩
theorem ROwn.notBlk1 {base : Nat} {F : List Nat} {w : World} {A1 A2 : Option Addr} {c1 c2 : Nat} {d : Dev} (h : ROwn base F w A1 A2 c1 c2 d) {g t : Nat} {cs : Array Value} (hb : Blk w g t cs) (ht : 24 ≠ t) {y : Nat} (hy : (Value.slice A1 d.bits.length c1).ownBlock = some y) : y ≠ g := by
  rintro rfl
  exact own_blk_ne h.bits hb ht hy
theorem ROwn.notBlk2 {base : Nat} {F : List Nat} {w : World} {A1 A2 : Option Addr} {c1 c2 : Nat} {d : Dev} (h : ROwn base F w A1 A2 c1 c2 d) {g t : Nat} {cs : Array Value} (hb : Blk w g t cs) (ht : 3 ≠ t) {y : Nat} (hy : (Value.slice A2 d.worn.length c2).ownBlock = some y) : y ≠ g := by
  rintro rfl
  exact own_blk_ne h.worn hb ht hy

section
variable (base g b1 b2 : Nat) (G : List Nat) (A1 A2 : Option Addr) (c1 c2 : Nat) (d : Dev) (o : FOp) (w : World) (hd : DevAt w g b1 b2 d) (hr : ROwn base (g :: b1 :: b2 :: G) w A1 A2 c1 c2 d) (ho : d.Ok) (hbase : base ≤ w.heap.size) (hG : ∀ x ∈ G, x < w.heap.size)
include hd hr ho hbase hG

set_option maxRecDepth 100000 in
set_option maxHeartbeats 500000 in
theorem do_erase (hk : kindM o.kind = 4) :
    Calls Try.prog 48 #[.pointer (some ⟨g, 0, none⟩), .agg (refV d A1 A2 c1 c2).toArray, .agg (fopCells o).toArray] w (RetDo base G w g b1 b2 (doS d o)) := by
  obtain ⟨e0, e1, e2, k1, hsz⟩ := box3_facts w (refV d A1 A2 c1 c2) o
  have HW : Hid (((w.alloc (.cells (refV d A1 A2 c1 c2).toArray 78)).alloc (.cells (fopCells o).toArray 85)).alloc (.cells zeroD 78) = box3 w (refV d A1 A2 c1 c2) o) := show _ = _ from rfl
  generalize box3 w (refV d A1 A2 c1 c2) o = W at *
  have HS : Hid (doS d o = (eraseS d o.sector).1) := by show _ = _; unfold doS; rw [if_pos hk]
  have HA : Hid (AggOf Try.prog 78 10) := agg_ref
  have o0 := e1.cell 0
  have o1 := e1.cell 1
  simp at o0 o1
  have hl0 := hd.dev.lt
  have hl1 := hd.bits.lt
  have hl2 := hd.worn.lt
  obtain ⟨m1, m2, m3⟩ := kindM_facts o.kind
  rw [hk] at m3
  have E0 := Lib.hid e0
  have E2 := Lib.hid e2
  have K1 := Lib.hid k1
  have HD := Lib.hid (hd.keep k1 (by simp) (by simp) (by simp))
  have HRo := Lib.hid (hr.keep0 k1)
  have HRC := fun W (h : ROwn base (g :: b1 :: b2 :: G) W A1 A2 c1 c2 d) (hW : w.heap.size ≤ W.heap.size) => Lib.hid (rerase_any base (g :: b1 :: b2 :: G) A1 A2 c1 c2 d W h ho (hltG g b1 b2 G w W hl0 hl1 hl2 hG hW) (by omega) o.sector)
  have HFC := fun W (h : DevAt W g b1 b2 d) => Lib.hid (ferase_any g b1 b2 d o.sector W h ho)
  clear e0 e1 e2 k1 hd hr ho hk
  go_enter Try.func48, Try.ntmps48
  go_wp2_with (first | rw [HW.out] | refine stop_load 78 (.tmp 4) rfl ?_)
  constructor
  refine wpList_load_agg rfl 78 (.tmp 4) rfl rfl (cs := refV d A1 A2 c1 c2) HA.out E0.out.cellsAt ?_
  go_wp2_with fail
  have hsz1 := K1.out.size
  refine (HRC W HRo.out hsz1).out.mono ?_
  rintro e W2 ⟨A1', A2', c1', c2', rfl, hro, k2⟩
  have F0 := Lib.hid (E0.out.keep0 k2)
  have F2 := Lib.hid (E2.out.keep0 k2)
  have HD2 := Lib.hid (HD.out.keep k2 (by simp) (by simp) (by simp))
  have K2 := Lib.hid (K1.out.then k2)
  have HRO2 := Lib.hid hro
  have hs2 := k2.size
  have O1 := Lib.hid (k2)
  clear hro k2 HRC HRo HD E0 E2
  go_wp2_with (refine stop_store 78 (.tmp 4) (.tmp 22) rfl ?_)
  constructor
  refine wpList_store_all rfl 78 (.tmp 4) (.tmp 22) rfl rfl rfl (t := 78) (cs := (refV d A1 A2 c1 c2).toArray) (vs := refV (eraseS d o.sector).1 A1' A2' c1' c2') HA.out.2 F0.out (refV_one _ _ _ _ _) rfl ?_
  have hlr1 : ∀ y, (Value.slice A1' (eraseS d o.sector).1.bits.length c1').ownBlock = some y → y ∉ [w.heap.size] := fun y hy hm => HRO2.out.notBlk1 F0.out (by decide) hy (by simpa using hm)
  have hlr2 : ∀ y, (Value.slice A2' (eraseS d o.sector).1.worn.length c2').ownBlock = some y → y ∉ [w.heap.size] := fun y hy hm => HRO2.out.notBlk2 F0.out (by decide) hy (by simpa using hm)
  have hlr3 : ∀ y, (Value.slice A1' (eraseS d o.sector).1.bits.length c1').ownBlock = some y → y ∉ [w.heap.size + 2] := fun y hy hm => HRO2.out.notBlk1 F2.out (by decide) hy (by simpa using hm)
  have hlr4 : ∀ y, (Value.slice A2' (eraseS d o.sector).1.worn.length c2').ownBlock = some y → y ∉ [w.heap.size + 2] := fun y hy hm => HRO2.out.notBlk2 F2.out (by decide) hy (by simpa using hm)
  intro W3 d3 k3
  have hk3 := K2.out.trans k3 (by simp)
  have D3 := Lib.hid d3
  have f3 := F2.out.keep k3 (by simp)
  have f3s := Lib.hid (k3.size)
  have HD3 := Lib.hid (HD2.out.keep k3 (by simp; omega) (by simp; omega) (by simp; omega))
  have hro3 : ROwn base (g :: b1 :: b2 :: G) W3 A1' A2' c1' c2' (eraseS d o.sector).1 := by
    exact HRO2.out.keepLt k3 hlr1 hlr2
  have HRO3 := Lib.hid hro3
  have hp1 := O1.out.cell (p := ⟨w.heap.size + 1, 1, none⟩) (by simp; omega) (by simp)
  rw [o1] at hp1
  have hp1' := k3.cell (p := ⟨w.heap.size + 1, 1, none⟩) (by simp; omega) (by simp)
  rw [hp1] at hp1'
  generalize hL : (eraseS d o.sector).1 = d' at *
  have F3 := Lib.hid f3
  have hs3 := hk3.size
  have HK3 := Lib.hid (hk3.mono (G := [g, b1, b2]) (by simp))
  have hb3 : w.heap.size + 3 ≤ W3.heap.size := by have := f3s.out; omega
  have KP := Lib.hid k3
  have hS0 : Blk W3 w.heap.size 78 (refV d' A1' A2' c1' c2').toArray ∧ W3.cell? ⟨w.heap.size + 1, 1, none⟩ = some (.int .i64 o.sector) := ⟨d3, hp1'⟩
  have HS0 := Lib.hid hS0
  clear d3 k3 hro3 hp1 o0 o1 f3 hlr1 hlr2 hk3 hp1' hS0 D3
  go_upto_region 5 with fail
  refine wp_region_held_drew (by kernel_rfl) (S := fun w' => Blk w' w.heap.size 78 (refV d' A1' A2' c1' c2').toArray ∧ w'.cell? ⟨w.heap.size + 1, 1, none⟩ = some (.int .i64 o.sector)) HS0.out (fun hS => ?_)
  refine ah_load (cs := refV d' A1' A2' c1' c2') 0 rfl (by kernel_rfl) (by kernel_rfl) (by kernel_rfl) (fun _ _ _ h => h) rfl HA.out (fun _ h => h.1.cellsAt) hS ?_
  refine ah_take 1 rfl (by kernel_rfl) (by kernel_rfl) (by kernel_rfl) (fun _ _ _ h => h) (fun _ _ => rfl) hS ?_
  refine ah_take (v := .pointer (some ⟨w.heap.size + 1, 1, none⟩)) 2 rfl (by kernel_rfl) (by kernel_rfl) (by kernel_rfl) (fun _ _ _ h => h) (fun w' _ => by go_simp) hS ?_
  refine ah_take (v := .int .i64 o.sector) 3 rfl (by kernel_rfl) (by kernel_rfl) (by kernel_rfl) (fun _ _ _ h => h) (fun w' h => by have h2 := h.2; go_simp) hS ?_
  refine ah_take (v := .int .i64 (eraseS d o.sector).2) 5 rfl (by kernel_rfl) (by kernel_rfl) (by kernel_rfl) (fun _ _ _ h => h) (fun _ _ => rfl) hS ?_
  (simp only [Act.put, List.setIfInBounds_toArray, List.set_cons_zero, List.set_cons_succ])
  refine ah_call (vs := #[.pointer (some ⟨g, 0, none⟩), .int .i64 o.sector]) 4 rfl (by kernel_rfl) (by simp only [List.map_toArray, List.map_cons, List.map_nil]; rfl) Try.func66 (by kernel_rfl) (by kernel_rfl) (HFC _ (HD3.out.keep ((Keep.refl [] W3).drew) (by simp) (by simp) (by simp))).out ?_
  rintro e w4 ⟨rfl, hd4, k4⟩
  refine ⟨_, rfl, ⟨hS.1.keep k4 (by simp; omega), (k4.cell (p := ⟨w.heap.size + 1, 1, none⟩) (show w.heap.size + 1 < W3.heap.size by omega) (by simp; omega)).trans hS.2⟩, ?_⟩
  refine ah_take (v := .bool true) 6 rfl (by kernel_rfl) (by kernel_rfl) (by kernel_rfl) (fun _ _ _ h => h) (fun w' _ => by go_simp) ⟨hS.1.keep k4 (by simp; omega), (k4.cell (p := ⟨w.heap.size + 1, 1, none⟩) (show w.heap.size + 1 < W3.heap.size by omega) (by simp; omega)).trans hS.2⟩ ?_
  have f4 := (F3.out.drew).keep k4 (by simp; omega)
  (simp only [Act.put, List.setIfInBounds_toArray, List.set_cons_zero, List.set_cons_succ])
  refine ah_store (t := 78) (cs := zeroD) (vs := refV d' A1' A2' c1' c2') 7 rfl (by kernel_rfl) rfl rfl HA.out.2 f4 (refV_one _ _ _ _ _) rfl ?_
  intro w5 d5 k5
  have hS5 : Blk w5 w.heap.size 78 (refV d' A1' A2' c1' c2').toArray ∧ w5.cell? ⟨w.heap.size + 1, 1, none⟩ = some (.int .i64 o.sector) := by
    have h1 := hS.1.keep k4 (by simp; omega)
    refine ⟨h1.keep k5 (by simp; omega), (k5.cell (p := ⟨w.heap.size + 1, 1, none⟩) (by have := h1.lt; have := f4.lt; simp; omega) (by simp)).trans ((k4.cell (p := ⟨w.heap.size + 1, 1, none⟩) (show w.heap.size + 1 < W3.heap.size by omega) (by simp; omega)).trans hS.2)⟩
  refine ⟨hS5, ?_⟩
  refine ah_take 8 rfl (by kernel_rfl) (by kernel_rfl) (by kernel_rfl) (fun _ _ _ h => h) (fun _ _ => rfl) hS5 ?_
  refine wpAnyH_done (by kernel_rfl) ?_ _
  simp only [Act.put, List.setIfInBounds_toArray, List.set_cons_zero, List.set_cons_succ]
  have HF1 := Lib.hid ((hd4.keep k5 (by simp; omega) (by simp; omega) (by simp; omega)))
  have HF2 : Hid (ROwn base (g :: b1 :: b2 :: G) w5 A1' A2' c1' c2' d') := ((HRO3.out.keep0 ((Keep.refl [] W3).drew)).keep (k4.mono (memG g b1 b2 G))).keepLt k5 hlr3 hlr4
  have HF3 : Hid (Keep [g, b1, b2] w w5) := ((HK3.out.drew.trans k4 (fun x hx _ => hx)).trans k5 (by simp; omega))
  clear hd4 k4 k5 hS hS5
  go_wp2_with fail
  refine bodyPost_ret (results_blk_tmp rfl _ rfl rfl d5 HA.out) rfl ?_
  rw [HS.out]
  exact ⟨A1', A2', c1', c2', rfl, HF1.out, HF2.out, HF3.out⟩
end
end Go.Proofs.Ytgonnddgljgghaa
