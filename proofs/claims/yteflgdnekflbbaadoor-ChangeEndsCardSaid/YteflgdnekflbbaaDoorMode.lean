/- Within how many ticks a task's jobs are done (steady.Response). Condition: the table of math/bits lies where the program's text lays it; the numbers are small. Within how many ticks nobody is there (steady.Busy). Condition: the table of math/bits lies where the program's text lays it. What is known of all tasks of a set (steady.Mode). Condition: the table of math/bits lies where the program's text lays it; the numbers are small. How far ahead of their deadlines all tasks of a set are done (steady.Slack). Condition: the table of math/bits lies where the program's text lays it; the numbers are small. -/
import Derived.Test.YteflgdnekflbbaaDoorBlock
namespace Go.Proofs.YteflgdnekflbbaaDoor
open Go.RowKit
attribute [local go_sem] Oper.semAt_some noOut_normal

/-- What is known of a task: its number, how long it may wait, within how many ticks its jobs are done; and whether it is in time. -/
structure RowM where
  task : Int
  block : Int
  resp : Int
  deriving DecidableEq
def rowCells (r : RowM) : List Value := [.int .i64 r.task, .int .i64 r.block, .int .i64 r.resp]
def respAt (x : Img) (s hold : Nat) (T : List Int) (k : Nat) (t : Tsk) : Option Int := leastM (t.cost + blockM x.tasks hold T (k : Int)) t.ded (allM (termsOf x.tasks (belowN s (k : Int))))
def respM (x : Img) (s hold : Nat) (T : List Int) (task : Int) : RowM × Bool :=
  if task < 0 then (⟨0, 0, 0⟩, false) else match x.tasks[task.toNat]? with
    | some t => (⟨task, blockM x.tasks hold T task, (respAt x s hold T task.toNat t).getD 0⟩, (respAt x s hold T task.toNat t).isSome)
    | none => (⟨0, 0, 0⟩, false)
def respRes (r : RowM × Bool) : Value := .tuple #[.agg (rowCells r.1).toArray, .bool r.2]
theorem agg_row : AggOf Tryd.prog 110 3 := ⟨by kernel_rfl, by kernel_rfl⟩

set_option maxRecDepth 100000 in
set_option maxHeartbeats 2000000 in
theorem resp_any (v : ImgV) (x : Img) (s hold : Nat) (T : List Int) (task : Int) (w : World) (hT : Tab w) (h : ImgAt w v x) (hs : s < 4294967296) (hh : hold < 4294967296) (hT8 : T.length = 8) (hx : Small x) :
    Calls Tryd.prog 41 #[.agg (imgCells v x).toArray, .int .u32 (s : Int), .int .u32 (hold : Int), .agg (iv T).toArray, .int .i64 task] w fun e w' => e = .returned (respRes (respM x s hold T task)) ∧ Keep [] w w' := by
  have hn := hx.n
  obtain ⟨W0, hW0⟩ : ∃ W0, ((w.alloc (.cells (imgCells v x).toArray 26)).alloc (.cells (iv T).toArray 104)).alloc (.cells #[.int .i64 0, .int .i64 0, .int .i64 0] 110) = W0 := ⟨_, rfl⟩
  have b0 : Blk W0 w.heap.size 26 (imgCells v x).toArray := by rw [← hW0]; exact ((Blk.new _ _ _).alloc _).alloc _
  have b1 : Blk W0 (w.heap.size + 1) 104 (iv T).toArray := by rw [← hW0]; exact (Blk.new1 _ _ _ _).alloc _
  have b2 : Blk W0 (w.heap.size + 2) 110 #[.int .i64 0, .int .i64 0, .int .i64 0] := by rw [← hW0]; exact Blk.new2 _ _ _ _ _
  have K0 : Keep [] w W0 := by rw [← hW0]; exact (((Keep.refl _ w).alloc _).alloc _).alloc _
  have hsz : W0.heap.size = w.heap.size + 3 := by rw [← hW0]; simp
  have HI1 := img_c1 b0
  have HW := Lib.hid hW0
  have HSZ := Lib.hid hsz
  clear hW0 hsz
  have hout : (task < 0 ∨ (0 ≤ task ∧ (x.tasks.length : Int) ≤ task)) ∨ (0 ≤ task ∧ task < x.tasks.length) := by omega
  rcases hout with hout | ⟨h1, h2⟩
  · have HR : Hid (respRes (respM x s hold T task) = .tuple #[.agg #[.int .i64 0, .int .i64 0, .int .i64 0], .bool false]) := by
      show _ = _
      unfold respM
      rcases hout with h1 | ⟨h1, h2⟩
      · rw [if_pos h1]; rfl
      · rw [if_neg (by omega), List.getElem?_eq_none (by omega)]; rfl
    generalize (imgCells v x).toArray = cs at *
    generalize iv T = tc at *
    clear h hx hT b1
    rcases hout with h1 | ⟨h1, h2⟩
    all_goals
      go_enter Tryd.func41, Tryd.ntmps41
      go_wp2_with (first
        | rw [HW.out]
        | refine stop_store 110 (.tmp 10) (.tmp 25) rfl ?_)
      constructor
      first | rw [HW.out] | skip
      refine wpList_store_all rfl 110 (.tmp 10) (.tmp 25) rfl rfl rfl (vs := [.int .i64 0, .int .i64 0, .int .i64 0]) (by kernel_rfl) b2 (by simp [Value.oneCell']) rfl ?_
      intro w5 d5 k5
      have K5 : Keep [] w w5 := K0.trans k5 (fun y hy hlt => by simp at hy; omega)
      go_wp2
      refine bodyPost_ret (results_cell_tmp rfl _ rfl rfl d5 agg_row) rfl ?_
      exact ⟨by rw [HR.out]; rfl, K5⟩
  · obtain ⟨k, rfl⟩ : ∃ k : Nat, task = (k : Int) := ⟨task.toNat, by omega⟩
    have hk : k < x.tasks.length := by omega
    obtain ⟨b, o, hA, hbw, hcs2⟩ := h.task (by omega)
    have hl8 := h.ok.lon _ (List.getElem_mem hk)
    have hct := (hcs2 k hk).keep0 K0 hbw
    have HR : Hid (respRes (respM x s hold T k) = .tuple #[.agg #[.int .i64 (k : Int), .int .i64 (blockM x.tasks hold T k), .int .i64 ((respAt x s hold T k x.tasks[k]).getD 0)], .bool (respAt x s hold T k x.tasks[k]).isSome]) := by
      show _ = _
      unfold respM
      rw [if_neg (by omega), Int.toNat_natCast, List.getElem?_eq_getElem hk]; rfl
    have HBl := fun w' hk' => Lib.hid (block_any v x hold T k w' (hT.keep0 hk') (h.keep0 hk') hh hT8 hx)
    have hbz := blockIn_le hx (bitsL (aboveN hold k)) (bitsL (overK T k 8))
    have hbb : 0 ≤ blockM x.tasks hold T k ∧ blockM x.tasks hold T k ≤ 200000 := by
      have := bitsL_le (overK T k 8)
      unfold blockM
      omega
    have hcost := hx.cost _ (List.getElem_mem hk)
    have hbel := belowN_lt (k : Int) hs
    have HBe := fun w => Lib.hid (below_any s (k : Int) w hs)
    have HTe := fun w' hk' => Lib.hid (terms_any v x (belowN s k) w' (hT.keep0 hk') (h.keep0 hk') hbel)
    have htl := termsOf_le x.tasks (belowN s k)
    have HRA : Hid (respAt x s hold T k x.tasks[k] = leastM (x.tasks[k].cost + blockM x.tasks hold T k) x.tasks[k].ded (allM (termsOf x.tasks (belowN s k)))) := rfl
    have HFL := fun A c w' hr => Lib.hid (fleast_any A c (termsOf x.tasks (belowN s k)) (x.tasks[k].cost + blockM x.tasks hold T k) x.tasks[k].ded w' hr (by omega))
    have HTL : Hid ((tskCells x.tasks[k]).length = 11) := tskCells_len hl8
    have g1 : (tskCells x.tasks[k])[1]? = some (.int .i64 x.tasks[k].ded) := rfl
    have g2 : (tskCells x.tasks[k])[2]? = some (.int .i64 x.tasks[k].cost) := rfl
    have HG := Lib.hid (And.intro g1 g2)
    have hone : Hid (∀ u ∈ tskCells x.tasks[k], u.oneCell' = true) := iv_one (tskInts x.tasks[k])
    have HIC : Hid ((imgCells v x).length = 4) := show _ = _ from rfl
    have hCI := Lib.hid b0.cellsAt
    have hCT := Lib.hid b1.cellsAt
    have HTT : Hid (AggOf Tryd.prog 104 (iv T).length) := by show AggOf _ _ _; rw [iv_len, hT8]; exact agg_tab
    have HCC := Lib.hid hct
    have B2 := Lib.hid b2
    have B0 := Lib.hid b0
    rw [hA] at HI1
    have p0 : (0 : Int) ≤ (k : Int) := by omega
    have p1 : (k : Int) < (x.tasks.length : Int) := by omega
    clear h hx hT hcs2 hct g1 g2 hbz b0 b1 b2
    generalize respAt x s hold T k x.tasks[k] = rs at *
    generalize blockM x.tasks hold T k = bm at *
    generalize termsOf x.tasks (belowN s k) = ts at *
    generalize belowN s k = bs at *
    generalize x.tasks[k] = tk at *
    generalize tskCells tk = tc2 at *
    generalize tk.cost = tco at *
    generalize tk.ded = tde at *
    generalize imgCells v x = ic at *
    generalize iv T = tc at *
    go_enter Tryd.func41, Tryd.ntmps41
    go_wp2_with (first
      | rw [HW.out]
      | (refine wpList_load_agg rfl 88 (.tmp 29) rfl rfl (cs := tc2) (by rw [HTL.out]; exact agg_task) HCC.out ?_)
      | (refine stop_store 88 (.tmp 12) (.tmp 30) rfl ?_))
    constructor
    refine wpList_store_all rfl 88 (.tmp 12) (.tmp 30) rfl rfl rfl (vs := tc2) (by rw [HTL.out]; exact agg_task.2) (Blk.new _ _ _) hone.out (by rw [HTL.out]; rfl) ?_
    intro w2 d2 k2
    have K2 : Keep [] W0 w2 := ((Keep.refl [] W0).alloc _).trans k2 (fun y hy hlt => by simp at hy; omega)
    have hz2 := k2.size
    simp at hz2
    have KW2 := K0.then K2
    have HB2 := HBl w2 KW2
    have hsz := HSZ.out
    have ci2 : Hid (CellsAt w2 w.heap.size 0 ic) := hCI.out.keep0 K2 (by omega)
    have ct2 : Hid (CellsAt w2 (w.heap.size + 1) 0 tc) := hCT.out.keep0 K2 (by omega)
    have HK2 := Lib.hid K2
    have D2 := Lib.hid d2
    clear k2 K2 hsz d2
    go_wp2_with (first
      | (refine wpList_load_agg rfl 26 (.tmp 5) rfl rfl (cs := ic) (by rw [HIC.out]; exact agg_image) ci2.out ?_)
      | (refine wpList_load_agg rfl 104 (.tmp 8) rfl rfl (cs := tc) HTT.out ct2.out ?_))
    refine HB2.out.mono ?_
    rintro e w3 ⟨rfl, k3⟩
    have hz3 := k3.size
    have HK3 := Lib.hid (HK2.out.then k3)
    have D3 := Lib.hid (D2.out.keep0 k3)
    have ci3 : Hid (CellsAt w3 w.heap.size 0 ic) := ci2.out.keep0 k3 (by have := HSZ.out; omega)
    clear k3
    go_wp2_with (refine stop_store 110 (.tmp 13) (.tmp 37) rfl ?_)
    constructor
    refine wpList_store_all rfl 110 (.tmp 13) (.tmp 37) rfl (vs := [.int .i64 (k : Int), .int .i64 bm, .int .i64 0]) rfl rfl (by kernel_rfl) (Blk.new _ _ _) (by simp [Value.oneCell']) rfl ?_
    intro w4 d4 k4
    have K34 : Keep [] w3 w4 := ((Keep.refl [] w3).alloc _).trans k4 (fun y hy hlt => by simp at hy; omega)
    have HK4 := Lib.hid (HK3.out.then K34)
    have D4 := Lib.hid d4
    have D34 := Lib.hid (D3.out.keep0 K34)
    have ci4 : Hid (∀ w', Keep [] w4 w' → CellsAt w' w.heap.size 0 ic) := fun w' hw => ci3.out.keep0 (K34.then hw) (by have := HSZ.out; omega)
    have hz4 := K34.size
    clear k4 K34 d4
    have hF : ∀ w', Keep [] w4 w' → w'.cell? ⟨W0.heap.size, 1, none⟩ = some (.int .i64 tde) ∧ w'.cell? ⟨W0.heap.size, 2, none⟩ = some (.int .i64 tco) ∧ w'.cell? ⟨w3.heap.size, 1, none⟩ = some (.int .i64 bm) := fun w' hw =>
      ⟨(D34.out.keep0 hw).at_ HG.out.1, (D34.out.keep0 hw).at_ HG.out.2, (D4.out.keep0 hw).at_ rfl⟩
    have q0 : 0 ≤ tco + bm := by omega
    have q1 : tco + bm ≤ 300000 := by omega
    go_wp2
    refine ap_begin 17 (Keep [] w4) rfl (Keep.refl _ _).drew (fun hS hPan => ?_) (fun _ _ d _ _ h => by cases d <;> exact h)
    (refine ap_val (v := ?_) 0 rfl (by kernel_rfl) (by kernel_rfl) (by kernel_rfl) (by kernel_rfl) (by rfl) hPan ?_ hS ?_; rotate_left; (intro w' hSw; obtain ⟨f1,f2,f3⟩ := hF w' hSw; go_simp; try with_reducible rfl); simp only [Act.put, List.setIfInBounds_toArray, List.set_cons_zero, List.set_cons_succ])
    (refine ap_val (v := ?_) 1 rfl (by kernel_rfl) (by kernel_rfl) (by kernel_rfl) (by kernel_rfl) (by rfl) hPan ?_ hS ?_; rotate_left; (intro w' hSw; obtain ⟨f1,f2,f3⟩ := hF w' hSw; go_simp; try with_reducible rfl); simp only [Act.put, List.setIfInBounds_toArray, List.set_cons_zero, List.set_cons_succ])
    (refine ap_val (v := ?_) 2 rfl (by kernel_rfl) (by kernel_rfl) (by kernel_rfl) (by kernel_rfl) (by rfl) hPan ?_ hS ?_; rotate_left; (intro w' hSw; obtain ⟨f1,f2,f3⟩ := hF w' hSw; go_simp; try with_reducible rfl); simp only [Act.put, List.setIfInBounds_toArray, List.set_cons_zero, List.set_cons_succ])
    (refine ap_val (v := ?_) 3 rfl (by kernel_rfl) (by kernel_rfl) (by kernel_rfl) (by kernel_rfl) (by rfl) hPan ?_ hS ?_; rotate_left; (intro w' hSw; obtain ⟨f1,f2,f3⟩ := hF w' hSw; go_simp; try with_reducible rfl); simp only [Act.put, List.setIfInBounds_toArray, List.set_cons_zero, List.set_cons_succ])
    have hwr : IntKind.i64.wrap (tco + bm) = tco + bm := IntWalk.i64_in _ (by omega)
    (refine ap_val (v := ?_) 4 rfl (by kernel_rfl) (by kernel_rfl) (by kernel_rfl) (by kernel_rfl) (by rfl) hPan ?_ hS ?_; rotate_left; (intro w' hSw; obtain ⟨f1,f2,f3⟩ := hF w' hSw; go_simp; try with_reducible rfl); simp only [Act.put, List.setIfInBounds_toArray, List.set_cons_zero, List.set_cons_succ])
    clear hwr
    (refine ap_val (v := ?_) 5 rfl (by kernel_rfl) (by kernel_rfl) (by kernel_rfl) (by kernel_rfl) (by rfl) hPan ?_ hS ?_; rotate_left; (intro w' hSw; obtain ⟨f1,f2,f3⟩ := hF w' hSw; go_simp; try with_reducible rfl); simp only [Act.put, List.setIfInBounds_toArray, List.set_cons_zero, List.set_cons_succ])
    (refine ap_val (v := ?_) 6 rfl (by kernel_rfl) (by kernel_rfl) (by kernel_rfl) (by kernel_rfl) (by rfl) hPan ?_ hS ?_; rotate_left; (intro w' hSw; obtain ⟨f1,f2,f3⟩ := hF w' hSw; go_simp; try with_reducible rfl); simp only [Act.put, List.setIfInBounds_toArray, List.set_cons_zero, List.set_cons_succ])
    refine ap_agg 7 26 (.tmp 5) ic rfl (by kernel_rfl) (by kernel_rfl) (by kernel_rfl) (by kernel_rfl) (by rfl) hPan rfl rfl (by rw [HIC.out]; exact agg_image) ci4.out hS ?_
    (simp only [Act.put, List.setIfInBounds_toArray, List.set_cons_zero, List.set_cons_succ])
    (refine ap_val (v := ?_) 8 rfl (by kernel_rfl) (by kernel_rfl) (by kernel_rfl) (by kernel_rfl) (by rfl) hPan ?_ hS ?_; rotate_left; (intro w' hSw; obtain ⟨f1,f2,f3⟩ := hF w' hSw; go_simp; try with_reducible rfl); simp only [Act.put, List.setIfInBounds_toArray, List.set_cons_zero, List.set_cons_succ])
    (refine ap_val (v := ?_) 9 rfl (by kernel_rfl) (by kernel_rfl) (by kernel_rfl) (by kernel_rfl) (by rfl) hPan ?_ hS ?_; rotate_left; (intro w' hSw; obtain ⟨f1,f2,f3⟩ := hF w' hSw; go_simp; try with_reducible rfl); simp only [Act.put, List.setIfInBounds_toArray, List.set_cons_zero, List.set_cons_succ])
    refine ap_one 10 (by kernel_rfl) ?_
    refine op_call (f := 61) (vs := #[.int .u32 (s : Int), .int .i64 (k : Int)]) 10 rfl (by rfl) rfl (by simp only [List.map_toArray, List.map_cons, List.map_nil]; rfl) Tryd.func61 (by kernel_rfl) (by kernel_rfl) (HBe _).out ?_
    rintro e w5 ⟨rfl, rfl⟩
    refine ⟨_, rfl, fun _ => hS, ?_⟩
    (simp only [Act.put, List.setIfInBounds_toArray, List.set_cons_zero, List.set_cons_succ])
    refine ap_one 11 (by kernel_rfl) ?_
    refine op_call (f := 60) (vs := #[.agg ic.toArray, .int .u32 (bs : Int)]) 11 rfl (by rfl) rfl (by simp only [List.map_toArray, List.map_cons, List.map_nil]; rfl) Tryd.func60 (by kernel_rfl) (by kernel_rfl) (HTe _ (K0.then (HK4.out.then hS))).out ?_
    rintro e w6 ⟨A6, c6, rfl, o6, k6⟩
    have hS6 := hS.then k6
    have r6 := Reads.of_own o6
    have HL6 := HFL A6 c6 _ r6
    refine ⟨_, rfl, fun _ => hS6, ?_⟩
    clear o6 k6 r6 hS
    have hS := hS6
    clear hS6
    (simp only [Act.put, List.setIfInBounds_toArray, List.set_cons_zero, List.set_cons_succ])
    refine ap_one 12 (by kernel_rfl) ?_
    refine op_call (f := 59) (vs := #[.int .i64 (tco + bm), .int .i64 tde, .slice A6 ts.length c6]) 12 rfl (by rfl) rfl (by simp only [List.map_toArray, List.map_cons, List.map_nil]; rfl) Tryd.func59 (by kernel_rfl) (by kernel_rfl) HL6.out ?_
    rintro e w7 ⟨rfl, k7⟩
    have hS7 := hS.then k7
    refine ⟨_, rfl, fun _ => hS7, ?_⟩
    clear k7 hS
    have hS := hS7
    clear hS7
    rw [← HRA.out, numRes_eq]
    (simp only [Act.put, List.setIfInBounds_toArray, List.set_cons_zero, List.set_cons_succ])
    (refine ap_val (v := ?_) 13 rfl (by kernel_rfl) (by kernel_rfl) (by kernel_rfl) (by kernel_rfl) (by rfl) hPan ?_ hS ?_; rotate_left; (intro w' hSw; obtain ⟨f1,f2,f3⟩ := hF w' hSw; go_simp; try with_reducible rfl); simp only [Act.put, List.setIfInBounds_toArray, List.set_cons_zero, List.set_cons_succ])
    (refine ap_val (v := ?_) 14 rfl (by kernel_rfl) (by kernel_rfl) (by kernel_rfl) (by kernel_rfl) (by rfl) hPan ?_ hS ?_; rotate_left; (intro w' hSw; obtain ⟨f1,f2,f3⟩ := hF w' hSw; go_simp; try with_reducible rfl); simp only [Act.put, List.setIfInBounds_toArray, List.set_cons_zero, List.set_cons_succ])
    (refine ap_val (v := ?_) 15 rfl (by kernel_rfl) (by kernel_rfl) (by kernel_rfl) (by kernel_rfl) (by rfl) hPan ?_ hS ?_; rotate_left; (intro w' hSw; obtain ⟨f1,f2,f3⟩ := hF w' hSw; go_simp; try with_reducible rfl); simp only [Act.put, List.setIfInBounds_toArray, List.set_cons_zero, List.set_cons_succ])
    (refine ap_val (v := ?_) 16 rfl (by kernel_rfl) (by kernel_rfl) (by kernel_rfl) (by kernel_rfl) (by rfl) hPan ?_ hS ?_; rotate_left; (intro w' hSw; obtain ⟨f1,f2,f3⟩ := hF w' hSw; go_simp; try with_reducible rfl); simp only [Act.put, List.setIfInBounds_toArray, List.set_cons_zero, List.set_cons_succ])
    refine ap_one 17 (by kernel_rfl) ?_
    refine op_run (v := .bool rs.isSome) (w' := w7) 17 rfl (by rfl) (by go_simp) ?_
    refine ⟨fun _ => hS, ap_done (by kernel_rfl) ?_ _⟩
    (simp only [Act.put, List.setIfInBounds_toArray, List.set_cons_zero, List.set_cons_succ])
    have HS := Lib.hid hS
    have e1 := (D4.out.keep0 hS).cell 2
    have f1 := (D4.out.keep0 hS).frozen 2
    have D7 := Lib.hid ((D4.out.keep0 hS).set_ 2 (.int .i64 (rs.getD 0)))
    simp at e1
    clear hS hPan hF HL6
    go_wp2_with (first
      | (refine wpList_load_agg rfl 110 (.tmp 13) rfl rfl (cs := [.int .i64 (k : Int), .int .i64 bm, .int .i64 (rs.getD 0)]) agg_row (Blk.cellsAt D7.out) ?_)
      | (refine stop_store 110 (.tmp 10) (.tmp 56) rfl ?_))
    constructor
    have hsz := HSZ.out
    have K7 : Keep [w3.heap.size] W0 (w7.setCell ⟨w3.heap.size, 2, none⟩ (.int .i64 (rs.getD 0))) := ((HK4.out.then HS.out).mono (by simp)).setCell (by simp) _
    have hz8 := HK3.out.size
    refine wpList_store_all rfl 110 (.tmp 10) (.tmp 56) rfl rfl rfl (vs := [.int .i64 (k : Int), .int .i64 bm, .int .i64 (rs.getD 0)]) (by kernel_rfl) (B2.out.keep K7 (by simp; omega)) (by simp [Value.oneCell']) rfl ?_
    intro w8 d8 k8
    have K8 : Keep [] w w8 := (K0.trans K7 (fun y hy hlt => by simp at hy; omega)).trans k8 (fun y hy hlt => by simp at hy; omega)
    go_wp2
    refine bodyPost_ret (results_cell_tmp rfl _ rfl rfl d8 agg_row) rfl ?_
    exact ⟨by rw [HR.out]; rfl, K8⟩
end Go.Proofs.YteflgdnekflbbaaDoor

namespace Go.Proofs.YteflgdnekflbbaaDoor
open Go.RowKit
attribute [local go_sem] Oper.semAt_some noOut_normal

/-- A term whose work is there at once, too. -/
def carry (t : Trm) : Trm := { t with car := t.cost }
/-- The first k terms are there at once. -/
def carryK (l : List Trm) (k : Nat) : List Trm := (l.take k).map carry ++ l.drop k
theorem carryK_len (l : List Trm) (k : Nat) : (carryK l k).length = l.length := by
  unfold carryK; rw [List.length_append, List.length_map, List.length_take, List.length_drop]; omega
theorem carryK_zero (l : List Trm) : carryK l 0 = l := by simp [carryK]
theorem carryK_all (l : List Trm) : carryK l l.length = l.map carry := by simp [carryK]
theorem carryK_at (l : List Trm) (k : Nat) (h : k < l.length) : (carryK l k)[k]? = some l[k] := by
  unfold carryK
  rw [List.getElem?_append_right (by simp; omega)]
  simp [List.getElem?_drop]
  rw [show min k l.length = k by omega]
  simp [h]
theorem carryK_step (l : List Trm) (k : Nat) (h : k < l.length) : carryK l (k + 1) = (carryK l k).set k (carry l[k]) := by
  apply List.ext_getElem?
  intro i
  rw [List.getElem?_set]
  unfold carryK
  rcases Nat.lt_trichotomy i k with h1 | h1 | h1
  · rw [if_neg (by omega), List.getElem?_append_left (by simp; omega), List.getElem?_append_left (by simp; omega)]
    simp [h1, show i < k + 1 by omega]
  · subst h1
    rw [if_pos rfl, if_pos (by simp; omega), List.getElem?_append_left (by simp; omega)]
    simp [h]
  · rw [if_neg (by omega), List.getElem?_append_right (by simp; omega), List.getElem?_append_right (by simp; omega)]
    simp [List.getElem?_drop]
    congr 1
    omega
theorem flat_set (l : List Trm) (k : Nat) (t : Trm) (h : k < l.length) (hk : l[k]? = some t) : ((l.flatMap trmCells).set (k * 4 + 3) (.int .i64 t.cost)) = (l.set k (carry t)).flatMap trmCells := by
  have h1 := flat_at (cells := trmCells) (size := 4) l (fun _ _ => rfl)
  have h2 := flat_at (cells := trmCells) (size := 4) (l.set k (carry t)) (fun _ _ => rfl)
  have l1 := flat_len (cells := trmCells) (size := 4) l (fun _ _ => rfl)
  have l2 := flat_len (cells := trmCells) (size := 4) (l.set k (carry t)) (fun _ _ => rfl)
  rw [List.length_set] at l2
  apply List.ext_getElem?
  intro i
  rw [List.getElem?_set]
  by_cases hi : i < l.length * 4
  · have e : i / 4 * 4 + i % 4 = i := by omega
    have a1 := h1 (i / 4) (i % 4) (by omega) (by omega)
    have a2 := h2 (i / 4) (i % 4) (by rw [List.length_set]; omega) (by omega)
    rw [e] at a1 a2
    rw [a1, a2]
    by_cases hik : i / 4 = k
    · subst hik
      have e3 : l[i / 4] = t := by rw [List.getElem?_eq_getElem h] at hk; injection hk
      simp only [List.getElem_set_self, e3]
      by_cases h3 : i % 4 = 3
      · rw [if_pos (by omega), if_pos (by omega), h3]; rfl
      · rw [if_neg (by omega)]
        have hc : i % 4 = 0 ∨ i % 4 = 1 ∨ i % 4 = 2 := by omega
        rcases hc with e | e | e <;> rw [e] <;> rfl
    · rw [if_neg (by omega), List.getElem_set_ne (fun e => hik e.symm)]
  · rw [if_neg (by omega), List.getElem?_eq_none (by omega), List.getElem?_eq_none (by omega)]
def busyM (x : Img) (s : Nat) : Option Int := leastM 0 65536 (allM ((termsOf x.tasks s).map carry))

set_option maxRecDepth 100000 in
set_option maxHeartbeats 2000000 in
theorem busy_any (v : ImgV) (x : Img) (s : Nat) (w : World) (hT : Tab w) (h : ImgAt w v x) (hs : s < 4294967296) :
    Calls Tryd.prog 43 #[.agg (imgCells v x).toArray, .int .u32 (s : Int)] w fun e w' => e = .returned (numRes (busyM x s)) ∧ Keep [] w w' := by
  have b0 := img_box w v x
  have K0 := (Keep.refl [] w).alloc (.cells (imgCells v x).toArray 26)
  have HTe := fun w' hk' => Lib.hid (terms_any v x s w' (hT.keep0 hk') (h.keep0 hk') hs)
  have htl := termsOf_le x.tasks s
  have HFL := fun A c w' hr => Lib.hid (fleast_any A c ((termsOf x.tasks s).map carry) 0 65536 w' hr (by simp; omega))
  have HIC : Hid ((imgCells v x).length = 4) := show _ = _ from rfl
  have hCI := Lib.hid b0.cellsAt
  have HB : Hid (busyM x s = leastM 0 65536 (allM ((termsOf x.tasks s).map carry))) := rfl
  clear b0 h hT
  generalize termsOf x.tasks s = ts at *
  generalize imgCells v x = ic at *
  go_enter Tryd.func43, Tryd.ntmps43
  go_wp2_with (refine wpList_load_agg rfl 26 (.tmp 2) rfl rfl (cs := ic) (by rw [HIC.out]; exact agg_image) hCI.out ?_)
  refine (HTe _ K0).out.mono ?_
  rintro e w3 ⟨A, c, rfl, o3, k3⟩
  have K3 := K0.then k3
  clear hCI HTe K0 k3
  have HL := Lib.hid htl
  go_wp2
  go_loopw [13] (fun i wr => ∃ k : Nat, k ≤ ts.length ∧ i = .int .i64 k ∧ wr.ownsRow w.heap.size 144 4 (.slice A ts.length c) ts.length ((carryK ts k).flatMap trmCells) ∧ Keep [] w wr) (fun i _ => ts.length - (intOf i).toNat)
  case atStart => exact ⟨0, Nat.zero_le _, rfl, by rw [carryK_zero]; exact own_base o3 (by simp), K3⟩
  case round =>
    clear o3 K3
    obtain ⟨k, hk, rfl, hrow, hK⟩ := hrel
    have hl := HL.out
    by_cases hlt : k < ts.length
    · obtain ⟨g, cap, hv, _, hgl⟩ := hrow.form (by omega)
      have e1 : A = some ⟨g, 0, none⟩ ∧ c = cap := by
        injection hv with h1 h2 h3
        exact ⟨h1, h3⟩
      obtain ⟨rfl, rfl⟩ := e1
      have hlow := (hrow.lt g rfl).1
      have hat := carryK_at ts k hlt
      have hkl : k < (carryK ts k).length := by rw [carryK_len]; exact hlt
      have hfa := flat_at (cells := trmCells) (size := 4) (carryK ts k) (fun _ _ => rfl) k
      have hget : (carryK ts k)[k] = ts[k] := by rw [List.getElem?_eq_getElem hkl] at hat; injection hat
      have f1 := hfa 1 hkl (by omega)
      have f3 := hfa 3 hkl (by omega)
      rw [hget] at f1 f3
      have c1 := (hrow.cellAt (k * 4 + 1) (by omega)).trans f1
      have c3 := (hrow.cellAt (k * 4 + 3) (by omega)).trans f3
      have z3 := hrow.frozenAt (k * 4 + 3)
      have st := (hrow.stored (k * 4 + 3) (.int .i64 ts[k].cost)).1
      rw [flat_set (carryK ts k) k ts[k] hkl hat, ← carryK_step ts k hlt] at st
      have kst : Keep [] w (wr.setCell ⟨g, k * 4 + 3, none⟩ (.int .i64 ts[k].cost)) := hK.trans (keep_set wr g (k * 4 + 3) _) (fun y hy hlt => by simp at hy; omega)
      have HST := Lib.hid (And.intro st kst)
      change wr.cell? ⟨g, k * 4 + 1, none⟩ = some (.int .i64 ts[k].cost) at c1
      change wr.cell? ⟨g, k * 4 + 3, none⟩ = some (.int .i64 ts[k].car) at c3
      have p0 : (0 : Int) ≤ (k : Int) := by omega
      have p1 : (k : Int) < (ts.length : Int) := by omega
      clear st kst hat hfa hget f1 f3 hrow hK hkl
      generalize ts[k].cost = tco at *
      generalize ts[k].car = tca at *
      go_wp2
      go_roundw
      case rel => exact ⟨k + 1, by omega, by go_num, HST.out.1, HST.out.2⟩
      case measure => simp [intOf] <;> omega
    · obtain rfl : k = ts.length := by omega
      rw [carryK_all] at hrow
      have hr := Reads.of_own hrow
      have HF := HFL A c wr (by simpa using hr)
      rw [List.length_map, ← HB.out] at HF
      have HK := Lib.hid hK
      clear hrow hr hK HB HFL
      go_wp2_with (refine HF.out.mono ?_; rintro e w5 ⟨rfl, k5⟩; rw [numRes_eq])
      go_ret2
      exact ⟨rfl, HK.out.then k5⟩
end Go.Proofs.YteflgdnekflbbaaDoor

namespace Go.Proofs.YteflgdnekflbbaaDoor
open Go.RowKit
attribute [local go_sem] Oper.semAt_some noOut_normal

theorem slice_row : SliceOf Tryd.prog 79 110 3 24 := ⟨Tryd.underlying79, by kernel_rfl, by decide⟩
/-- The first task of a row that may be late; and what is known of all. -/
def lateIn (x : Img) (s : Nat) (T : List Int) (is : List Nat) : Option Nat := is.find? (fun (i : Nat) => !(respM x s s T (i : Int)).2)
def rowsIn (x : Img) (s : Nat) (T : List Int) (is : List Nat) : List RowM := is.map (fun (i : Nat) => (respM x s s T (i : Int)).1)
structure ModeM where
  rows : List RowM
  at_ : Nat
  ok : Bool
def modeM (x : Img) (s : Nat) : ModeM := match lateIn x s (ceilOf x.tasks s) (bitsL s) with
  | some i => ⟨[], i, false⟩
  | none => ⟨rowsIn x s (ceilOf x.tasks s) (bitsL s), 0, true⟩
def RetMode (w : World) (m : ModeM) (e : Ending) (w' : World) : Prop :=
  ∃ A c, e = .returned (.tuple #[.slice A m.rows.length c, .int .i64 (m.at_ : Int), .bool m.ok]) ∧ w'.ownsRow w.heap.size 110 3 (.slice A m.rows.length c) m.rows.length (m.rows.flatMap rowCells) ∧ Keep [] w w'
theorem lateIn_snoc {x : Img} {s : Nat} {T : List Int} {is : List Nat} {i : Nat} (h : lateIn x s T is = none) : lateIn x s T (is ++ [i]) = if (respM x s s T (i : Int)).2 then none else some i := by
  unfold lateIn at *
  rw [List.find?_append, h]
  by_cases hb : (respM x s s T (i : Int)).2 = true
  · rw [if_pos hb]; simp [hb]
  · rw [if_neg hb]; simp [hb]
theorem lateIn_prefix {x : Img} {s : Nat} {T : List Int} {is js : List Nat} {i : Nat} (h : is <+: js) (hl : lateIn x s T is = some i) : lateIn x s T js = some i := by
  obtain ⟨r, rfl⟩ := h
  unfold lateIn at *
  rw [List.find?_append, hl]; rfl
theorem rowsIn_snoc (x : Img) (s : Nat) (T : List Int) (is : List Nat) (i : Nat) : rowsIn x s T (is ++ [i]) = rowsIn x s T is ++ [(respM x s s T (i : Int)).1] := by simp [rowsIn]
theorem rowsIn_len (x : Img) (s : Nat) (T : List Int) (is : List Nat) : (rowsIn x s T is).length = is.length := by simp [rowsIn]

set_option maxRecDepth 100000 in
set_option maxHeartbeats 2000000 in
theorem mode_any (v : ImgV) (x : Img) (s : Nat) (w : World) (hT : Tab w) (h : ImgAt w v x) (hs : s < 4294967296) (hx : Small x) :
    Calls Tryd.prog 26 #[.agg (imgCells v x).toArray, .int .u32 (s : Int)] w (RetMode w (modeM x s)) := by
  rw [← callsIn_wide (n := 9)]
  refine callsIn_of_wp_marks Tryd.func26 rfl trivial ?_ rfl
  simp only [Tryd.ntmps26, List.size_toArray, List.length_cons, List.length_nil, Nat.reduceAdd, Nat.reduceSub, Array.replicate_succ, Array.replicate_zero, List.push_toArray, List.append_toArray, List.nil_append, List.cons_append]
  have HI := Lib.hid h
  have HTb := Lib.hid hT
  have HC := fun w' hk => Lib.hid (ceilOf_any v x s w' (hT.keep0 hk) (h.keep0 hk) hs)
  have HRs := fun (i : Nat) w' hk => Lib.hid (resp_any v x s s (ceilOf x.tasks s) (i : Int) w' (hT.keep0 hk) (h.keep0 hk) hs hs (ceilIn_len _ _) hx)
  obtain ⟨W0, hW0⟩ : ∃ W0, ((((w.alloc (.cells (imgCells v x).toArray 26)).alloc (.cells #[.int .u32 (s : Int)] 36)).alloc (.cells #[.slice none 0 0] 79)).alloc (.cells #[.int .i64 0] 3)).alloc (.cells #[.bool false] 4) = W0 := ⟨_, rfl⟩
  have b0 : Blk W0 w.heap.size 26 (imgCells v x).toArray := by rw [← hW0]; exact ((((Blk.new _ _ _).alloc _).alloc _).alloc _).alloc _
  have b1 : Blk W0 (w.heap.size + 1) 36 #[.int .u32 (s : Int)] := by rw [← hW0]; exact (((Blk.new1 _ _ _ _).alloc _).alloc _).alloc _
  have b2 : Blk W0 (w.heap.size + 2) 79 #[.slice none 0 0] := by rw [← hW0]; exact ((Blk.new2 _ _ _ _ _).alloc _).alloc _
  have b3 : Blk W0 (w.heap.size + 3) 3 #[.int .i64 0] := by rw [← hW0]; exact (Blk.new3 _ _ _ _ _ _).alloc _
  have b4 : Blk W0 (w.heap.size + 4) 4 #[.bool false] := by
    rw [← hW0]
    have := Blk.new3 (w.alloc (.cells (imgCells v x).toArray 26)) (.cells #[.int .u32 (s : Int)] 36) (.cells #[.slice none 0 0] 79) (.cells #[.int .i64 0] 3) 4 #[.bool false]
    rw [World.size_alloc] at this
    exact this
  have K0 : Keep [] w W0 := by rw [← hW0]; exact (((((Keep.refl _ w).alloc _).alloc _).alloc _).alloc _).alloc _
  have hsz : W0.heap.size = w.heap.size + 5 := by rw [← hW0]; simp
  have HIC : Hid ((imgCells v x).length = 4) := show _ = _ from rfl
  have hCI := Lib.hid b0.cellsAt
  have cs1 := b1.cell 0
  simp at cs1
  have HSZ := Lib.hid hsz
  have HCL : Hid ((iv (ceilOf x.tasks s)).length = 8) := by show _ = _; rw [iv_len]; exact ceilIn_len _ _
  have HONE := Lib.hid (iv_one (ceilOf x.tasks s))
  have HM : Hid (modeM x s = match lateIn x s (ceilOf x.tasks s) (bitsL s) with | some i => ⟨[], i, false⟩ | none => ⟨rowsIn x s (ceilOf x.tasks s) (bitsL s), 0, true⟩) := rfl
  clear h hT hx hsz
  generalize ceilOf x.tasks s = T at *
  generalize iv T = tc at *
  generalize imgCells v x = ic at *
  have HW := Lib.hid hW0
  clear hW0
  gi_wp2_with (first
    | rw [HW.out]
    | (refine wpListIn_agg rfl 26 (.tmp 2) rfl rfl (cs := ic) (by rw [HIC.out]; exact agg_image) hCI.out ?_)
    | (refine ⟨trivial, ?_⟩; gi_at_call 39; refine (callsIn_wide.2 (HC _ K0).out).mono ?_; rintro e w1 ⟨rfl, k1⟩)
    | (refine stopIn_store 104 (.tmp 7) (.tmp 14) rfl ?_))
  constructor
  refine wpListIn_store_all rfl 104 (.tmp 7) (.tmp 14) rfl rfl rfl (vs := tc) (by rw [HCL.out]; kernel_rfl) (Blk.new _ _ _) HONE.out (by rw [HCL.out]; rfl) ?_
  intro w2 d2 k2
  have hsz := HSZ.out
  have hz1 := k1.size
  have k12 : Keep [] W0 w2 := (k1.alloc _).trans k2 (fun y hy hlt => by simp at hy; omega)
  have hz2 := k2.size
  simp at hz2
  have cs2 := (k12.cell (p := ⟨w.heap.size + 1, 0, none⟩) (World.block_lt_of_cell? _ _ cs1) (by simp)).trans cs1
  clear hsz HC
  gi_wp2_with (refine stopIn_at 15 rfl ?_)
  constructor
  obtain ⟨V2, hV2⟩ : ∃ V2, w2.alloc (.cells #[.slice none 0 0] 79) = V2 := ⟨_, rfl⟩
  have kV2 : Keep [] w2 V2 := by rw [← hV2]; exact (Keep.refl _ w2).alloc _
  have szV2 : V2.heap.size = w2.heap.size + 1 := by rw [← hV2]; simp
  have cs3 := (kV2.cell (p := ⟨w.heap.size + 1, 0, none⟩) (World.block_lt_of_cell? _ _ cs2) (by simp)).trans cs2
  change wpListIn _ _ _ _ _ _ _ (w2.alloc (.cells #[.slice none 0 0] 79))
  rw [hV2]
  have HSV := Lib.hid szV2
  clear szV2
  gi_wp2_with (refine ⟨trivial, ?_⟩; gi_at_call 40; refine (callsIn_wide.2 (maskAll_any s _)).mono ?_; rintro e w' ⟨rfl, rfl⟩)
  have hsz := HSZ.out
  obtain ⟨W3, hW3⟩ : ∃ W3, V2.alloc (.cells #[.int .u32 (s : Int)] 36) = W3 := ⟨_, rfl⟩
  have d8 : Blk W3 w2.heap.size 79 #[.slice none 0 0] := by rw [← hW3, ← hV2]; exact (Blk.new _ _ _).alloc _
  have d9 : Blk W3 (w2.heap.size + 1) 36 #[.int .u32 (s : Int)] := by rw [← hW3, ← HSV.out]; exact Blk.new _ _ _
  have k23 : Keep [] w2 W3 := by rw [← hW3]; exact kV2.alloc _
  have sz3 : W3.heap.size = w2.heap.size + 2 := by rw [← hW3]; simp [HSV.out]
  have d7 := d2.keep0 k23
  have k3 := k12.then k23
  have K3 := K0.then k3
  have c0 := b0.keep0 k3
  have c1 := b1.keep0 k3
  have c2 := b2.keep0 k3
  have c3 := b3.keep0 k3
  have c4 := b4.keep0 k3
  have hTW := HTb.out.keep0 K3
  have hzt := HTb.out.1
  have hsv := HSV.out
  simp only [hW3, hsv]
  clear hV2 kV2 cs3
  obtain ⟨g7, hg7⟩ : ∃ g7, w1.heap.size = g7 := ⟨_, rfl⟩
  obtain ⟨g8, hg8⟩ : ∃ g8, w2.heap.size = g8 := ⟨_, rfl⟩
  simp only [hg7, hg8] at *
  have hzs : w.heap.size + 4 < g7 ∧ g7 < g8 ∧ W3.heap.size = g8 + 2 := ⟨by omega, by omega, sz3⟩
  clear hsv HSV hW3 k1 k2 k12 k23 k3 d2 b0 b1 b2 b3 b4 K0 hz1 hz2 cs1 cs2 hsz hg7 hg8 HW hCI
  have hbl := bitsL_le s
  have HLb := Lib.hid hbl
  refine wpIn_rangeFunc_ownG (F := Fence.wide) (n := 9) (ps := #[17]) rfl (by omega) (gf := 56) (lb := #[.pointer (some ⟨g8 + 1, 0, none⟩)]) rfl trivial (enters_of Tryd.func56 (by kernel_rfl) rfl)
    (maskAll1_stops 8 s (g8 + 1) W3 (by omega) d9 hs hTW) Same.trans (Same.turn (by simp; omega)) (Below.refl _ _) (fun _ => rfl)
    (fun pre W => lateIn x s T pre = none ∧ (∃ V, W.ownsRow W3.heap.size 110 3 V pre.length ((rowsIn x s T pre).flatMap rowCells) ∧ Blk W g8 79 #[V]) ∧ Blk W (w.heap.size + 2) 79 #[.slice none 0 0] ∧ Blk W (w.heap.size + 3) 3 #[.int .i64 0] ∧ Blk W (w.heap.size + 4) 4 #[.bool false] ∧ Keep [g8] W3 W)
    (fun c pre W => c = .ret ∧ ∃ i : Nat, lateIn x s T pre = some i ∧ Blk W (w.heap.size + 2) 79 #[.slice none 0 0] ∧ Blk W (w.heap.size + 3) 3 #[.int .i64 (i : Int)] ∧ Blk W (w.heap.size + 4) 4 #[.bool false] ∧ Keep [g8, w.heap.size + 2, w.heap.size + 3, w.heap.size + 4] W3 W)
    ?hI ?hIx ⟨rfl, ⟨_, World.ownsRow_nil _ _ _ _, d8⟩, c2, c3, c4, Keep.refl _ _⟩
    (fun i => { tmps := #[.agg ic.toArray, .int .u32 (s : Int), .pointer (some ⟨w.heap.size, 0, none⟩), .pointer (some ⟨w.heap.size + 1, 0, none⟩), .pointer (some ⟨w.heap.size + 2, 0, none⟩), .pointer (some ⟨w.heap.size + 3, 0, none⟩), .pointer (some ⟨w.heap.size + 4, 0, none⟩),
      .pointer (some ⟨g7, 0, none⟩), .pointer (some ⟨g8, 0, none⟩), .int .i64 (i : Int), undef, undef, .agg ic.toArray, .int .u32 (s : Int), .agg tc.toArray, .int .u32 (s : Int), .func (.func 56) #[] #[.pointer (some ⟨g8 + 1, 0, none⟩)], .int .i64 (i : Int),
      undef, undef, undef, undef, undef, undef, undef, undef, undef, undef, undef, undef, undef, undef, undef, undef, undef], defers := [] }) ?assign ?body ?done ?stop
  case hI =>
    intro pre X Y row hs hg hr
    obtain ⟨h0, ⟨V, h1, h2⟩, h3, h4, h5, h6⟩ := hs
    exact ⟨h0, ⟨V, ownsRow_own (β := Unit) _ _ _ (fun _ => V) (fun _ => pre.length) (fun _ => (rowsIn x s T pre).flatMap rowCells) () X Y row h1 hg hr, blk_own (β := Unit) _ _ (fun _ => _) () X Y row h2 hg hr⟩,
      blk_own (β := Unit) _ _ (fun _ => _) () X Y row h3 hg hr, blk_own (β := Unit) _ _ (fun _ => _) () X Y row h4 hg hr, blk_own (β := Unit) _ _ (fun _ => _) () X Y row h5 hg hr,
      keep_own (β := Unit) (Nat.le_refl _) () X Y row h6 hg hr⟩
  case hIx =>
    intro c pre X Y row hs hg hr
    obtain ⟨h0, i, h1, h3, h4, h5, h6⟩ := hs
    exact ⟨h0, i, h1, blk_own (β := Unit) _ _ (fun _ => _) () X Y row h3 hg hr, blk_own (β := Unit) _ _ (fun _ => _) () X Y row h4 hg hr, blk_own (β := Unit) _ _ (fun _ => _) () X Y row h5 hg hr,
      keep_own (β := Unit) (Nat.le_refl _) () X Y row h6 hg hr⟩
  case assign =>
    intro l i W K hK
    simp only [encN]
    gi_wp2
    exact hK
  case body =>
    rintro l pre i W ⟨hlate, ⟨V, hrow, hv⟩, e2, e3, e4, hK⟩ hlt
    have ci := Lib.hid (c0.keep hK (by simp; omega)).cellsAt
    have ct := Lib.hid (d7.keep hK (by simp; omega)).cellsAt
    have q1 := (c1.keep hK (by simp; omega)).cell 0
    simp at q1
    have KW : Keep [] w W := K3.trans hK (by intro y hy hlt; simp at hy; omega)
    have HRi := HRs i W KW
    have HLS := Lib.hid (lateIn_snoc (i := i) hlate)
    have HRO := Lib.hid (rowsIn_snoc x s T pre i)
    generalize respM x s s T (i : Int) = rm at *
    obtain ⟨⟨ra, rb, rc⟩, ro⟩ := rm
    have HRi2 : Hid (Calls Tryd.prog 41 #[.agg ic.toArray, .int .u32 (s : Int), .int .u32 (s : Int), .agg tc.toArray, .int .i64 (i : Int)] W fun e w' => e = .returned (.tuple #[.agg #[.int .i64 ra, .int .i64 rb, .int .i64 rc], .bool ro]) ∧ Keep [] W w') := HRi.out
    clear HRi hlate
    gi_wp2_with (first
      | (refine wpListIn_agg rfl 26 (.tmp 2) rfl rfl (cs := ic) (by rw [HIC.out]; exact agg_image) ci.out ?_)
      | (refine wpListIn_agg rfl 104 (.tmp 7) rfl rfl (cs := tc) (by rw [HCL.out]; exact agg_tab) ct.out ?_)
      | (refine ⟨trivial, ?_⟩; gi_at_call 41; refine ((callsIn_wide.2 HRi2.out).inRound l).mono ?_; rintro e w5 ⟨rfl, k5⟩)
      | (refine stopIn_store 110 (.tmp 10) (.tmp 25) rfl ?_))
    constructor
    refine wpListIn_store_all rfl 110 (.tmp 10) (.tmp 25) rfl rfl rfl (vs := [.int .i64 ra, .int .i64 rb, .int .i64 rc]) (by kernel_rfl) (Blk.new _ _ _) (by simp [Value.oneCell']) rfl ?_
    intro w6 d6 k6
    have hz5 := k5.size
    have K6 : Keep [] W w6 := (k5.alloc _).trans k6 (fun y hy hlt => by simp at hy; omega)
    have f2 := e2.keep0 K6
    have f3 := e3.keep0 K6
    have f4 := e4.keep0 K6
    have fv := hv.keep0 K6
    have frow := own_keep0 hrow K6
    have HD6 := Lib.hid d6.cellsAt
    have hK6 := hK.then K6
    have HK6 := Lib.hid K6
    have HWC := Lib.hid (own_cells hrow)
    have hC : ∀ y, y ∈ [g8 + 1, 0] → y < W.heap.size := fun y hy => by
      have := hK.size
      simp only [List.mem_cons, List.not_mem_nil, or_false] at hy
      rcases hy with rfl | rfl <;> omega
    clear k5 k6 K6 e2 e3 e4 hv hrow d6 HRi2 ci ct q1
    cases ro with
    | false =>
      have HLi : Hid (lateIn x s T (pre ++ [i]) = some i) := by show _ = _; rw [HLS.out]; rfl
      have a2 := f2.cell 0
      have z2 := f2.frozen 0
      have a3 := f3.cell 0
      have z3 := f3.frozen 0
      have a4 := f4.cell 0
      have z4 := f4.frozen 0
      simp at a2 a3 a4
      gi_wp2
      have n1 := keep_set w6 (w.heap.size + 2) 0 (.slice none 0 0)
      have n2 := keep_set (w6.setCell ⟨w.heap.size + 2, 0, none⟩ (.slice none 0 0)) (w.heap.size + 3) 0 (.int .i64 (i : Int))
      have n3 := keep_set ((w6.setCell ⟨w.heap.size + 2, 0, none⟩ (.slice none 0 0)).setCell ⟨w.heap.size + 3, 0, none⟩ (.int .i64 (i : Int))) (w.heap.size + 4) 0 (.bool false)
      have n4 : Keep [w.heap.size + 2, w.heap.size + 3, w.heap.size + 4] w6 _ := ((n1.mono (by simp)).trans n2 (by simp)).trans n3 (by simp)
      have n5 : Keep [w.heap.size + 2, w.heap.size + 3, w.heap.size + 4] W _ := (HK6.out.mono (by simp)).trans n4 (fun y hy _ => hy)
      refine ⟨n5.from (fun y hy => .inl (by simp at hy; omega)), rfl, i, HLi.out, ?_, ?_, ?_, (hK6.mono (by simp)).trans n4 (fun y hy _ => List.mem_cons_of_mem _ hy)⟩
      · exact ((f2.set_ 0 _).keep n2 (by simp)).keep n3 (by simp)
      · exact ((f3.keep n1 (by simp)).set_ 0 _).keep n3 (by simp)
      · exact ((f4.keep n1 (by simp)).keep n2 (by simp)).set_ 0 _
    | true =>
      have HLi : Hid (lateIn x s T (pre ++ [i]) = none) := by show _ = _; rw [HLS.out]; rfl
      have hpl : pre.length < 32 := by have := HLb.out; omega
      obtain ⟨A, c, rfl⟩ := own_shape frow
      have hWcells := HWC.out
      have av := fv.cell 0
      simp at av
      have hne := own_blk_ne frow fv (by decide)
      have hB : W3.heap.size ≤ w6.heap.size := hK6.size
      gi_wp2_with (first
        | (refine wpListIn_agg rfl 110 (.tmp 10) rfl rfl (cs := [.int .i64 ra, .int .i64 rb, .int .i64 rc]) agg_row HD6.out ?_)
        | (gi_at_builtin; refine wpListIn_app_lit 1 rfl (.tmp 30) (.tmp 32) 79 rfl slice_row frow rfl rfl (us := [.int .i64 ra, .int .i64 rb, .int .i64 rc]) rfl (by simp [Value.oneCell']) hB (by omega) (by unfold maxLen; omega) ?_; intro v' w7 o7 k7 hat7; obtain ⟨A', c', rfl⟩ := own_shape o7; have v7 := fv.keep k7 (by simpa using hne); have c7 := v7.cell 0; have z7 := v7.frozen 0; simp at c7))
      obtain ⟨n1, n2, n3⟩ := boxed_append frow fv (by decide) k7 o7
      have hlt' := fun x hx => (frow.lt x (by simpa using hx)).1
      have e1 : (pre ++ [i]).length = pre.length + 1 := by simp
      have n5 := (HK6.out.mono (G := g8 :: (Value.slice A pre.length c).ownBlock.toList) (by simp)).trans n3 (fun y hy _ => hy)
      have hcl : ∀ y, y ∈ (Value.slice A pre.length c).ownBlock.toList → W3.heap.size ≤ y := fun y hy => hlt' y (by simpa using hy)
      have hz3 := hK.size
      have hfar : ∀ y, y < W3.heap.size → y ≠ g8 → y ∉ g8 :: (Value.slice A pre.length c).ownBlock.toList := fun y hy hne hm => by
        rcases List.mem_cons.1 hm with h | h
        · exact hne h
        · have := hcl y h; omega
      refine ⟨n5.from (fun y hy => ?_), Same.keep n5 (fun y hy => ⟨hC y hy, hfar y ?_ ?_⟩), HLi.out, ⟨_, ?_, n1⟩, f2.keep n3 (hfar _ (by omega) (by omega)), f3.keep n3 (hfar _ (by omega) (by omega)), f4.keep n3 (hfar _ (by omega) (by omega)), hK6.trans n3 (fun y hy hys => ?_)⟩
      · rcases List.mem_cons.1 hy with rfl | hy
        · exact .inl (by omega)
        · exact .inr (hWcells y hy)
      · simp only [List.mem_cons, List.not_mem_nil, or_false] at hy
        rcases hy with rfl | rfl <;> omega
      · simp only [List.mem_cons, List.not_mem_nil, or_false] at hy
        rcases hy with rfl | rfl <;> omega
      · rw [e1, HRO.out, List.flatMap_append]
        rw [show g8 + 2 = W3.heap.size by omega]
        exact n2
      · rcases List.mem_cons.1 hy with h | h
        · simp [h]
        · have := hcl y h; omega
  case done =>
    rintro D ys W hD rfl ⟨hlate, ⟨V, hrow, hv⟩, e2, e3, e4, hK⟩ hD2
    have HMM : Hid (modeM x s = ⟨rowsIn x s T (bitsL s), 0, true⟩) := by show _ = _; rw [HM.out, hlate]
    have hrl := rowsIn_len x s T (bitsL s)
    have av := hv.cell 0
    have a2 := e2.cell 0
    have z2 := e2.frozen 0
    have a3 := e3.cell 0
    have z3 := e3.frozen 0
    have a4 := e4.cell 0
    have z4 := e4.frozen 0
    simp at av a2 a3 a4
    obtain ⟨A, c, rfl⟩ := own_shape hrow
    rw [← hrl] at hrow av hv
    clear hrl hlate
    generalize rowsIn x s T (bitsL s) = rs at *
    gi_wp2
    have n1 := keep_set W (w.heap.size + 2) 0 (.slice A rs.length c)
    have n2 := keep_set (W.setCell ⟨w.heap.size + 2, 0, none⟩ (.slice A rs.length c)) (w.heap.size + 3) 0 (.int .i64 0)
    have n3 := keep_set ((W.setCell ⟨w.heap.size + 2, 0, none⟩ (.slice A rs.length c)).setCell ⟨w.heap.size + 3, 0, none⟩ (.int .i64 0)) (w.heap.size + 4) 0 (.bool true)
    have n4 : Keep [w.heap.size + 2, w.heap.size + 3, w.heap.size + 4] W _ := ((n1.mono (by simp)).trans n2 (by simp)).trans n3 (by simp)
    have m2 := ((e2.set_ 0 (.slice A rs.length c)).keep n2 (by simp)).keep n3 (by simp)
    have m3 := ((e3.keep n1 (by simp)).set_ 0 (.int .i64 0)).keep n3 (by simp)
    have m4 := ((e4.keep n1 (by simp)).keep n2 (by simp)).set_ 0 (.bool true)
    have mr := own_keep hrow n4 (fun g hg hm => by have := (hrow.lt g hg).1; simp at hm; omega)
    have hD3 := n4.block D (Array.getElem?_eq_some_iff.1 hD2).1 (by simp; omega) |>.trans hD2
    refine ⟨by simp, .inl ⟨_, _, rfl, run_takeDeferred hD3, ?_⟩⟩
    have r2 := (blk_putObj (.deferred none) m2 hD3 rfl).cell 0
    have r3 := (blk_putObj (.deferred none) m3 hD3 rfl).cell 0
    have r4 := (blk_putObj (.deferred none) m4 hD3 rfl).cell 0
    have rr := own_putObj (.deferred none) mr hD3 rfl
    have kk := ((K3.trans hK (by intro y hy hlt; simp at hy; omega)).trans n4 (fun y hy hlt => by simp at hy; omega)).trans (keep_putObj _ D (.deferred none)) (fun y hy hlt => by simp at hy; omega)
    simp at r2 r3 r4
    rw [HMM.out]
    exact ⟨.tuple #[.slice A rs.length c, .int .i64 0, .bool true], by simp [results, Tryd.results26, go_sem, r2, r3, r4], A, c, rfl, own_base rr (by omega), kk⟩
  case stop =>
    rintro D c pre W hD hpre ⟨rfl, i, hi, e2, e3, e4, hK⟩ hD2
    have HMM : Hid (modeM x s = ⟨[], i, false⟩) := by show _ = _; rw [HM.out, lateIn_prefix hpre hi]
    have a2 := e2.cell 0
    have a3 := e3.cell 0
    have a4 := e4.cell 0
    simp at a2 a3 a4
    gi_wp2
    have hD3 := hD2
    refine ⟨by simp, .inl ⟨_, _, rfl, run_takeDeferred hD3, ?_⟩⟩
    have r2 := (blk_putObj (.deferred none) e2 hD3 rfl).cell 0
    have r3 := (blk_putObj (.deferred none) e3 hD3 rfl).cell 0
    have r4 := (blk_putObj (.deferred none) e4 hD3 rfl).cell 0
    have kk := (K3.trans hK (by intro y hy hlt; simp at hy; omega)).trans (keep_putObj _ D (.deferred none)) (fun y hy hlt => by simp at hy; omega)
    simp at r2 r3 r4
    rw [HMM.out]
    exact ⟨.tuple #[.slice none 0 0, .int .i64 (i : Int), .bool false], by simp [results, Tryd.results26, go_sem, r2, r3, r4], none, 0, rfl, World.ownsRow_nil _ _ _ _, kk⟩
end Go.Proofs.YteflgdnekflbbaaDoor

namespace Go.Proofs.YteflgdnekflbbaaDoor
open Go.RowKit
attribute [local go_sem] Oper.semAt_some noOut_normal

theorem itFrom_le (own most : Int) (f : Int → Option Int) : ∀ (k : Nat) (w n : Int), itFrom own most f k w = some n → n ≤ most ∧ (0 ≤ w → 0 ≤ n)
  | 0, w, n, h => by simp [itFrom] at h
  | k + 1, w, n, h => by
    rw [itFrom] at h
    split at h
    · rename_i hw
      cases hs : stepM own f w with
      | none => rw [hs] at h; cases h
      | some z =>
        rw [hs] at h
        have h : (if z ≤ w then some w else itFrom own most f k z) = some n := h
        split at h
        · have h : w = n := by simpa using h
          omega
        · have := itFrom_le own most f k z n h
          omega
    · cases h
theorem leastM_le {own most : Int} {f : Int → Option Int} {n : Int} (h : leastM own most f = some n) : 0 ≤ n ∧ n ≤ most := by
  unfold leastM at h
  split at h
  · cases h
  · have := itFrom_le own most f _ _ n h
    omega
/-- Where a task is in time, it is one, and its response is no greater than its deadline. -/
theorem respM_ok {x : Img} {s hold : Nat} {T : List Int} {task : Int} (h : (respM x s hold T task).2 = true) : 0 ≤ task ∧ ∃ t, x.tasks[task.toNat]? = some t ∧ (respM x s hold T task).1.task = task ∧ 0 ≤ (respM x s hold T task).1.resp ∧ (respM x s hold T task).1.resp ≤ t.ded := by
  unfold respM at *
  by_cases h0 : task < 0
  · rw [if_pos h0] at h; cases h
  · rw [if_neg h0] at h ⊢
    cases ht : x.tasks[task.toNat]? with
    | none => rw [ht] at h; cases h
    | some t =>
      rw [ht] at h
      refine ⟨by omega, t, rfl, rfl, ?_⟩
      cases hr : respAt x s hold T task.toNat t with
      | none =>
        have h : (respAt x s hold T task.toNat t).isSome = true := h
        rw [hr] at h; cases h
      | some n =>
        have := leastM_le hr
        show 0 ≤ (respAt x s hold T task.toNat t).getD 0 ∧ (respAt x s hold T task.toNat t).getD 0 ≤ t.ded
        rw [hr]
        exact this
theorem modeM_rows {x : Img} {s : Nat} (h : (modeM x s).ok = true) : ∀ r ∈ (modeM x s).rows, ∃ k : Nat, ∃ t, r.task = (k : Int) ∧ x.tasks[k]? = some t ∧ 0 ≤ r.resp ∧ r.resp ≤ t.ded := by
  intro r hr
  unfold modeM at *
  cases hl : lateIn x s (ceilOf x.tasks s) (bitsL s) with
  | some i => rw [hl] at h; cases h
  | none =>
    rw [hl] at hr
    have hr : r ∈ rowsIn x s (ceilOf x.tasks s) (bitsL s) := hr
    unfold rowsIn at hr
    obtain ⟨i, hi, rfl⟩ := List.mem_map.1 hr
    unfold lateIn at hl
    have := List.find?_eq_none.1 hl i hi
    have hok : (respM x s s (ceilOf x.tasks s) (i : Int)).2 = true := by simpa using this
    obtain ⟨_, t, h1, h2, h3, h4⟩ := respM_ok hok
    exact ⟨i, t, h2, by simpa using h1, h3, h4⟩
def aheadOf (l : List Tsk) (r : RowM) : Int := (match l[r.task.toNat]? with | some t => t.ded | none => 0) - r.resp
def slackIn (l : List Tsk) (rs : List RowM) : Int := rs.foldl (fun m r => min m (aheadOf l r)) 4096
def slackM (x : Img) (s : Nat) : Option Int := if (modeM x s).ok && !(modeM x s).rows.isEmpty then some (slackIn x.tasks (modeM x s).rows) else none
theorem slackIn_snoc (l : List Tsk) (rs : List RowM) (r : RowM) : slackIn l (rs ++ [r]) = min (slackIn l rs) (aheadOf l r) := by simp [slackIn]
theorem row_len (r : RowM) : (rowCells r).length = 3 := rfl
theorem modeM_len (x : Img) (s : Nat) : (modeM x s).rows.length ≤ 32 := by
  unfold modeM
  split
  · simp
  · rw [rowsIn_len]; exact bitsL_le s

end Go.Proofs.YteflgdnekflbbaaDoor
