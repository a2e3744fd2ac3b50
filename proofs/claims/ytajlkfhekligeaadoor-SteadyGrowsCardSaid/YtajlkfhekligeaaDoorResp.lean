/- Within how many ticks a task's jobs are done (steady.Response). Condition: the table of math/bits lies where the program's text lays it; the numbers are small. -/
import Derived.Test.YtajlkfhekligeaaDoorBlock
namespace Go.Proofs.YtajlkfhekligeaaDoor
open Go.RowKit
attribute [local go_sem] Oper.semAt_some noOut_normal

/-- What is known of a task: its number, how long it may wait, within how many ticks its jobs are done; and whether it is in time. -/
structure RowM where
  task : Int
  block : Int
  resp : Int
  deriving DecidableEq
def rowCells (r : RowM) : List Value := [.int .i64 r.task, .int .i64 r.block, .int .i64 r.resp]
def respAt (x : Img) (s hold : Nat) (T : List Int) (k : Nat) (t : Tsk) : Option Int := leastM (t.cost + blockM x.tasks hold T (k : Int)) t.ded (allM (termsOf x.tasks (belowN s (k : Int))))
def respM (x : Img) (s hold : Nat) (T : List Int) (task : Int) : RowM × Bool :=
  if task < 0 then (⟨0, 0, 0⟩, false) else match x.tasks[task.toNat]? with
    | some t => (⟨task, blockM x.tasks hold T task, (respAt x s hold T task.toNat t).getD 0⟩, (respAt x s hold T task.toNat t).isSome)
    | none => (⟨0, 0, 0⟩, false)
def respRes (r : RowM × Bool) : Value := .tuple #[.agg (rowCells r.1).toArray, .bool r.2]
theorem agg_row : AggOf Tryd.prog 36 3 := ⟨by kernel_rfl, by kernel_rfl⟩

set_option maxRecDepth 100000 in
set_option maxHeartbeats 2000000 in
theorem resp_any (v : ImgV) (x : Img) (s hold : Nat) (T : List Int) (task : Int) (w : World) (hT : Tab w) (h : ImgAt w v x) (hs : s < 4294967296) (hh : hold < 4294967296) (hT8 : T.length = 8) (hx : Small x) :
    Calls Tryd.prog 29 #[.agg (imgCells v x).toArray, .int .u32 (s : Int), .int .u32 (hold : Int), .agg (iv T).toArray, .int .i64 task] w fun e w' => e = .returned (respRes (respM x s hold T task)) ∧ Keep [] w w' := by
  have hn := hx.n
  obtain ⟨W0, hW0⟩ : ∃ W0, ((w.alloc (.cells (imgCells v x).toArray 26)).alloc (.cells (iv T).toArray 75)).alloc (.cells #[.int .i64 0, .int .i64 0, .int .i64 0] 36) = W0 := ⟨_, rfl⟩
  have b0 : Blk W0 w.heap.size 26 (imgCells v x).toArray := by rw [← hW0]; exact ((Blk.new _ _ _).alloc _).alloc _
  have b1 : Blk W0 (w.heap.size + 1) 75 (iv T).toArray := by rw [← hW0]; exact (Blk.new1 _ _ _ _).alloc _
  have b2 : Blk W0 (w.heap.size + 2) 36 #[.int .i64 0, .int .i64 0, .int .i64 0] := by rw [← hW0]; exact Blk.new2 _ _ _ _ _
  have K0 : Keep [] w W0 := by rw [← hW0]; exact (((Keep.refl _ w).alloc _).alloc _).alloc _
  have hsz : W0.heap.size = w.heap.size + 3 := by rw [← hW0]; simp
  have HI1 := img_c1 b0
  have HW := Lib.hid hW0
  have HSZ := Lib.hid hsz
  clear hW0 hsz
  have hout : (task < 0 ∨ (0 ≤ task ∧ (x.tasks.length : Int) ≤ task)) ∨ (0 ≤ task ∧ task < x.tasks.length) := by omega
  rcases hout with hout | ⟨h1, h2⟩
  · have HR : Hid (respRes (respM x s hold T task) = .tuple #[.agg #[.int .i64 0, .int .i64 0, .int .i64 0], .bool false]) := by
      show _ = _
      unfold respM
      rcases hout with h1 | ⟨h1, h2⟩
      · rw [if_pos h1]; rfl
      · rw [if_neg (by omega), List.getElem?_eq_none (by omega)]; rfl
    generalize (imgCells v x).toArray = cs at *
    generalize iv T = tc at *
    clear h hx hT b1
    rcases hout with h1 | ⟨h1, h2⟩
    all_goals
      go_enter Tryd.func29, Tryd.ntmps29
      go_wp2_with (first
        | rw [HW.out]
        | refine stop_store 36 (.tmp 10) (.tmp 25) rfl ?_)
      constructor
      first | rw [HW.out] | skip
      refine wpList_store_all rfl 36 (.tmp 10) (.tmp 25) rfl rfl rfl (vs := [.int .i64 0, .int .i64 0, .int .i64 0]) (by kernel_rfl) b2 (by simp [Value.oneCell']) rfl ?_
      intro w5 d5 k5
      have K5 : Keep [] w w5 := K0.trans k5 (fun y hy hlt => by simp at hy; omega)
      go_wp2
      refine bodyPost_ret (results_cell_tmp rfl _ rfl rfl d5 agg_row) rfl ?_
      exact ⟨by rw [HR.out]; rfl, K5⟩
  · obtain ⟨k, rfl⟩ : ∃ k : Nat, task = (k : Int) := ⟨task.toNat, by omega⟩
    have hk : k < x.tasks.length := by omega
    obtain ⟨b, o, hA, hbw, hcs2⟩ := h.task (by omega)
    have hl8 := h.ok.lon _ (List.getElem_mem hk)
    have hct := (hcs2 k hk).keep0 K0 hbw
    have HR : Hid (respRes (respM x s hold T k) = .tuple #[.agg #[.int .i64 (k : Int), .int .i64 (blockM x.tasks hold T k), .int .i64 ((respAt x s hold T k x.tasks[k]).getD 0)], .bool (respAt x s hold T k x.tasks[k]).isSome]) := by
      show _ = _
      unfold respM
      rw [if_neg (by omega), Int.toNat_natCast, List.getElem?_eq_getElem hk]; rfl
    have HBl := fun w' hk' => Lib.hid (block_any v x hold T k w' (hT.keep0 hk') (h.keep0 hk') hh hT8 hx)
    have hbz := blockIn_le hx (bitsL (aboveN hold k)) (bitsL (overK T k 8))
    have hbb : 0 ≤ blockM x.tasks hold T k ∧ blockM x.tasks hold T k ≤ 200000 := by
      have := bitsL_le (overK T k 8)
      unfold blockM
      omega
    have hcost := hx.cost _ (List.getElem_mem hk)
    have hbel := belowN_lt (k : Int) hs
    have HBe := fun w => Lib.hid (below_any s (k : Int) w hs)
    have HTe := fun w' hk' => Lib.hid (terms_any v x (belowN s k) w' (hT.keep0 hk') (h.keep0 hk') hbel)
    have htl := termsOf_le x.tasks (belowN s k)
    have HRA : Hid (respAt x s hold T k x.tasks[k] = leastM (x.tasks[k].cost + blockM x.tasks hold T k) x.tasks[k].ded (allM (termsOf x.tasks (belowN s k)))) := rfl
    have HFL := fun A c w' hr => Lib.hid (fleast_any A c (termsOf x.tasks (belowN s k)) (x.tasks[k].cost + blockM x.tasks hold T k) x.tasks[k].ded w' hr (by omega))
    have HTL : Hid ((tskCells x.tasks[k]).length = 11) := tskCells_len hl8
    have g1 : (tskCells x.tasks[k])[1]? = some (.int .i64 x.tasks[k].ded) := rfl
    have g2 : (tskCells x.tasks[k])[2]? = some (.int .i64 x.tasks[k].cost) := rfl
    have HG := Lib.hid (And.intro g1 g2)
    have hone : Hid (∀ u ∈ tskCells x.tasks[k], u.oneCell' = true) := iv_one (tskInts x.tasks[k])
    have HIC : Hid ((imgCells v x).length = 4) := show _ = _ from rfl
    have hCI := Lib.hid b0.cellsAt
    have hCT := Lib.hid b1.cellsAt
    have HTT : Hid (AggOf Tryd.prog 75 (iv T).length) := by show AggOf _ _ _; rw [iv_len, hT8]; exact agg_tab
    have HCC := Lib.hid hct
    have B2 := Lib.hid b2
    have B0 := Lib.hid b0
    rw [hA] at HI1
    have p0 : (0 : Int) ≤ (k : Int) := by omega
    have p1 : (k : Int) < (x.tasks.length : Int) := by omega
    clear h hx hT hcs2 hct g1 g2 hbz b0 b1 b2
    generalize respAt x s hold T k x.tasks[k] = rs at *
    generalize blockM x.tasks hold T k = bm at *
    generalize termsOf x.tasks (belowN s k) = ts at *
    generalize belowN s k = bs at *
    generalize x.tasks[k] = tk at *
    generalize tskCells tk = tc2 at *
    generalize tk.cost = tco at *
    generalize tk.ded = tde at *
    generalize imgCells v x = ic at *
    generalize iv T = tc at *
    go_enter Tryd.func29, Tryd.ntmps29
    go_wp2_with (first
      | rw [HW.out]
      | (refine wpList_load_agg rfl 39 (.tmp 29) rfl rfl (cs := tc2) (by rw [HTL.out]; exact agg_task) HCC.out ?_)
      | (refine stop_store 39 (.tmp 12) (.tmp 30) rfl ?_))
    constructor
    refine wpList_store_all rfl 39 (.tmp 12) (.tmp 30) rfl rfl rfl (vs := tc2) (by rw [HTL.out]; exact agg_task.2) (Blk.new _ _ _) hone.out (by rw [HTL.out]; rfl) ?_
    intro w2 d2 k2
    have K2 : Keep [] W0 w2 := ((Keep.refl [] W0).alloc _).trans k2 (fun y hy hlt => by simp at hy; omega)
    have hz2 := k2.size
    simp at hz2
    have KW2 := K0.then K2
    have HB2 := HBl w2 KW2
    have hsz := HSZ.out
    have ci2 : Hid (CellsAt w2 w.heap.size 0 ic) := hCI.out.keep0 K2 (by omega)
    have ct2 : Hid (CellsAt w2 (w.heap.size + 1) 0 tc) := hCT.out.keep0 K2 (by omega)
    have HK2 := Lib.hid K2
    have D2 := Lib.hid d2
    clear k2 K2 hsz d2
    go_wp2_with (first
      | (refine wpList_load_agg rfl 26 (.tmp 5) rfl rfl (cs := ic) (by rw [HIC.out]; exact agg_image) ci2.out ?_)
      | (refine wpList_load_agg rfl 75 (.tmp 8) rfl rfl (cs := tc) HTT.out ct2.out ?_))
    refine HB2.out.mono ?_
    rintro e w3 ⟨rfl, k3⟩
    have hz3 := k3.size
    have HK3 := Lib.hid (HK2.out.then k3)
    have D3 := Lib.hid (D2.out.keep0 k3)
    have ci3 : Hid (CellsAt w3 w.heap.size 0 ic) := ci2.out.keep0 k3 (by have := HSZ.out; omega)
    clear k3
    go_wp2_with (refine stop_store 36 (.tmp 13) (.tmp 37) rfl ?_)
    constructor
    refine wpList_store_all rfl 36 (.tmp 13) (.tmp 37) rfl (vs := [.int .i64 (k : Int), .int .i64 bm, .int .i64 0]) rfl rfl (by kernel_rfl) (Blk.new _ _ _) (by simp [Value.oneCell']) rfl ?_
    intro w4 d4 k4
    have K34 : Keep [] w3 w4 := ((Keep.refl [] w3).alloc _).trans k4 (fun y hy hlt => by simp at hy; omega)
    have HK4 := Lib.hid (HK3.out.then K34)
    have D4 := Lib.hid d4
    have D34 := Lib.hid (D3.out.keep0 K34)
    have ci4 : Hid (∀ w', Keep [] w4 w' → CellsAt w' w.heap.size 0 ic) := fun w' hw => ci3.out.keep0 (K34.then hw) (by have := HSZ.out; omega)
    have hz4 := K34.size
    clear k4 K34 d4
    have hF : ∀ w', Keep [] w4 w' → w'.cell? ⟨W0.heap.size, 1, none⟩ = some (.int .i64 tde) ∧ w'.cell? ⟨W0.heap.size, 2, none⟩ = some (.int .i64 tco) ∧ w'.cell? ⟨w3.heap.size, 1, none⟩ = some (.int .i64 bm) := fun w' hw =>
      ⟨(D34.out.keep0 hw).at_ HG.out.1, (D34.out.keep0 hw).at_ HG.out.2, (D4.out.keep0 hw).at_ rfl⟩
    have q0 : 0 ≤ tco + bm := by omega
    have q1 : tco + bm ≤ 300000 := by omega
    go_wp2
    refine ap_begin 17 (Keep [] w4) rfl (Keep.refl _ _).drew (fun hS hPan => ?_) (fun _ _ d _ _ h => by cases d <;> exact h)
    (refine ap_val (v := ?_) 0 rfl (by kernel_rfl) (by kernel_rfl) (by kernel_rfl) (by kernel_rfl) (by rfl) hPan ?_ hS ?_; rotate_left; (intro w' hSw; obtain ⟨f1,f2,f3⟩ := hF w' hSw; go_simp; try with_reducible rfl); simp only [Act.put, List.setIfInBounds_toArray, List.set_cons_zero, List.set_cons_succ])
    (refine ap_val (v := ?_) 1 rfl (by kernel_rfl) (by kernel_rfl) (by kernel_rfl) (by kernel_rfl) (by rfl) hPan ?_ hS ?_; rotate_left; (intro w' hSw; obtain ⟨f1,f2,f3⟩ := hF w' hSw; go_simp; try with_reducible rfl); simp only [Act.put, List.setIfInBounds_toArray, List.set_cons_zero, List.set_cons_succ])
    (refine ap_val (v := ?_) 2 rfl (by kernel_rfl) (by kernel_rfl) (by kernel_rfl) (by kernel_rfl) (by rfl) hPan ?_ hS ?_; rotate_left; (intro w' hSw; obtain ⟨f1,f2,f3⟩ := hF w' hSw; go_simp; try with_reducible rfl); simp only [Act.put, List.setIfInBounds_toArray, List.set_cons_zero, List.set_cons_succ])
    (refine ap_val (v := ?_) 3 rfl (by kernel_rfl) (by kernel_rfl) (by kernel_rfl) (by kernel_rfl) (by rfl) hPan ?_ hS ?_; rotate_left; (intro w' hSw; obtain ⟨f1,f2,f3⟩ := hF w' hSw; go_simp; try with_reducible rfl); simp only [Act.put, List.setIfInBounds_toArray, List.set_cons_zero, List.set_cons_succ])
    have hwr : IntKind.i64.wrap (tco + bm) = tco + bm := IntWalk.i64_in _ (by omega)
    (refine ap_val (v := ?_) 4 rfl (by kernel_rfl) (by kernel_rfl) (by kernel_rfl) (by kernel_rfl) (by rfl) hPan ?_ hS ?_; rotate_left; (intro w' hSw; obtain ⟨f1,f2,f3⟩ := hF w' hSw; go_simp; try with_reducible rfl); simp only [Act.put, List.setIfInBounds_toArray, List.set_cons_zero, List.set_cons_succ])
    clear hwr
    (refine ap_val (v := ?_) 5 rfl (by kernel_rfl) (by kernel_rfl) (by kernel_rfl) (by kernel_rfl) (by rfl) hPan ?_ hS ?_; rotate_left; (intro w' hSw; obtain ⟨f1,f2,f3⟩ := hF w' hSw; go_simp; try with_reducible rfl); simp only [Act.put, List.setIfInBounds_toArray, List.set_cons_zero, List.set_cons_succ])
    (refine ap_val (v := ?_) 6 rfl (by kernel_rfl) (by kernel_rfl) (by kernel_rfl) (by kernel_rfl) (by rfl) hPan ?_ hS ?_; rotate_left; (intro w' hSw; obtain ⟨f1,f2,f3⟩ := hF w' hSw; go_simp; try with_reducible rfl); simp only [Act.put, List.setIfInBounds_toArray, List.set_cons_zero, List.set_cons_succ])
    refine ap_agg 7 26 (.tmp 5) ic rfl (by kernel_rfl) (by kernel_rfl) (by kernel_rfl) (by kernel_rfl) (by rfl) hPan rfl rfl (by rw [HIC.out]; exact agg_image) ci4.out hS ?_
    (simp only [Act.put, List.setIfInBounds_toArray, List.set_cons_zero, List.set_cons_succ])
    (refine ap_val (v := ?_) 8 rfl (by kernel_rfl) (by kernel_rfl) (by kernel_rfl) (by kernel_rfl) (by rfl) hPan ?_ hS ?_; rotate_left; (intro w' hSw; obtain ⟨f1,f2,f3⟩ := hF w' hSw; go_simp; try with_reducible rfl); simp only [Act.put, List.setIfInBounds_toArray, List.set_cons_zero, List.set_cons_succ])
    (refine ap_val (v := ?_) 9 rfl (by kernel_rfl) (by kernel_rfl) (by kernel_rfl) (by kernel_rfl) (by rfl) hPan ?_ hS ?_; rotate_left; (intro w' hSw; obtain ⟨f1,f2,f3⟩ := hF w' hSw; go_simp; try with_reducible rfl); simp only [Act.put, List.setIfInBounds_toArray, List.set_cons_zero, List.set_cons_succ])
    refine ap_one 10 (by kernel_rfl) ?_
    refine op_call (f := 61) (vs := #[.int .u32 (s : Int), .int .i64 (k : Int)]) 10 rfl (by rfl) rfl (by simp only [List.map_toArray, List.map_cons, List.map_nil]; rfl) Tryd.func61 (by kernel_rfl) (by kernel_rfl) (HBe _).out ?_
    rintro e w5 ⟨rfl, rfl⟩
    refine ⟨_, rfl, fun _ => hS, ?_⟩
    (simp only [Act.put, List.setIfInBounds_toArray, List.set_cons_zero, List.set_cons_succ])
    refine ap_one 11 (by kernel_rfl) ?_
    refine op_call (f := 52) (vs := #[.agg ic.toArray, .int .u32 (bs : Int)]) 11 rfl (by rfl) rfl (by simp only [List.map_toArray, List.map_cons, List.map_nil]; rfl) Tryd.func52 (by kernel_rfl) (by kernel_rfl) (HTe _ (K0.then (HK4.out.then hS))).out ?_
    rintro e w6 ⟨A6, c6, rfl, o6, k6⟩
    have hS6 := hS.then k6
    have r6 := Reads.of_own o6
    have HL6 := HFL A6 c6 _ r6
    refine ⟨_, rfl, fun _ => hS6, ?_⟩
    clear o6 k6 r6 hS
    have hS := hS6
    clear hS6
    (simp only [Act.put, List.setIfInBounds_toArray, List.set_cons_zero, List.set_cons_succ])
    refine ap_one 12 (by kernel_rfl) ?_
    refine op_call (f := 53) (vs := #[.int .i64 (tco + bm), .int .i64 tde, .slice A6 ts.length c6]) 12 rfl (by rfl) rfl (by simp only [List.map_toArray, List.map_cons, List.map_nil]; rfl) Tryd.func53 (by kernel_rfl) (by kernel_rfl) HL6.out ?_
    rintro e w7 ⟨rfl, k7⟩
    have hS7 := hS.then k7
    refine ⟨_, rfl, fun _ => hS7, ?_⟩
    clear k7 hS
    have hS := hS7
    clear hS7
    rw [← HRA.out, numRes_eq]
    (simp only [Act.put, List.setIfInBounds_toArray, List.set_cons_zero, List.set_cons_succ])
    (refine ap_val (v := ?_) 13 rfl (by kernel_rfl) (by kernel_rfl) (by kernel_rfl) (by kernel_rfl) (by rfl) hPan ?_ hS ?_; rotate_left; (intro w' hSw; obtain ⟨f1,f2,f3⟩ := hF w' hSw; go_simp; try with_reducible rfl); simp only [Act.put, List.setIfInBounds_toArray, List.set_cons_zero, List.set_cons_succ])
    (refine ap_val (v := ?_) 14 rfl (by kernel_rfl) (by kernel_rfl) (by kernel_rfl) (by kernel_rfl) (by rfl) hPan ?_ hS ?_; rotate_left; (intro w' hSw; obtain ⟨f1,f2,f3⟩ := hF w' hSw; go_simp; try with_reducible rfl); simp only [Act.put, List.setIfInBounds_toArray, List.set_cons_zero, List.set_cons_succ])
    (refine ap_val (v := ?_) 15 rfl (by kernel_rfl) (by kernel_rfl) (by kernel_rfl) (by kernel_rfl) (by rfl) hPan ?_ hS ?_; rotate_left; (intro w' hSw; obtain ⟨f1,f2,f3⟩ := hF w' hSw; go_simp; try with_reducible rfl); simp only [Act.put, List.setIfInBounds_toArray, List.set_cons_zero, List.set_cons_succ])
    (refine ap_val (v := ?_) 16 rfl (by kernel_rfl) (by kernel_rfl) (by kernel_rfl) (by kernel_rfl) (by rfl) hPan ?_ hS ?_; rotate_left; (intro w' hSw; obtain ⟨f1,f2,f3⟩ := hF w' hSw; go_simp; try with_reducible rfl); simp only [Act.put, List.setIfInBounds_toArray, List.set_cons_zero, List.set_cons_succ])
    refine ap_one 17 (by kernel_rfl) ?_
    refine op_run (v := .bool rs.isSome) (w' := w7) 17 rfl (by rfl) (by go_simp) ?_
    refine ⟨fun _ => hS, ap_done (by kernel_rfl) ?_ _⟩
    (simp only [Act.put, List.setIfInBounds_toArray, List.set_cons_zero, List.set_cons_succ])
    have HS := Lib.hid hS
    have e1 := (D4.out.keep0 hS).cell 2
    have f1 := (D4.out.keep0 hS).frozen 2
    have D7 := Lib.hid ((D4.out.keep0 hS).set_ 2 (.int .i64 (rs.getD 0)))
    simp at e1
    clear hS hPan hF HL6
    go_wp2_with (first
      | (refine wpList_load_agg rfl 36 (.tmp 13) rfl rfl (cs := [.int .i64 (k : Int), .int .i64 bm, .int .i64 (rs.getD 0)]) agg_row (Blk.cellsAt D7.out) ?_)
      | (refine stop_store 36 (.tmp 10) (.tmp 56) rfl ?_))
    constructor
    have hsz := HSZ.out
    have K7 : Keep [w3.heap.size] W0 (w7.setCell ⟨w3.heap.size, 2, none⟩ (.int .i64 (rs.getD 0))) := ((HK4.out.then HS.out).mono (by simp)).setCell (by simp) _
    have hz8 := HK3.out.size
    refine wpList_store_all rfl 36 (.tmp 10) (.tmp 56) rfl rfl rfl (vs := [.int .i64 (k : Int), .int .i64 bm, .int .i64 (rs.getD 0)]) (by kernel_rfl) (B2.out.keep K7 (by simp; omega)) (by simp [Value.oneCell']) rfl ?_
    intro w8 d8 k8
    have K8 : Keep [] w w8 := (K0.trans K7 (fun y hy hlt => by simp at hy; omega)).trans k8 (fun y hy hlt => by simp at hy; omega)
    go_wp2
    refine bodyPost_ret (results_cell_tmp rfl _ rfl rfl d8 agg_row) rfl ?_
    exact ⟨by rw [HR.out]; rfl, K8⟩
end Go.Proofs.YtajlkfhekligeaaDoor
