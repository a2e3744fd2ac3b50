/- Two operations may come up next; no condition. A task's time behind a change, and whether it may be late (window.Shift's Behind, late). Condition: the table of math/bits lies where the program's text lays it; small numbers. -/
import Derived.Test.YtggjhjbcdnffnaaDoorPend
import Derived.Test.YtggjhjbcdnffnaaDoorWinW
namespace Go.Proofs.YtggjhjbcdnffnaaDoor
open Go.RowKit

section
variable {P : Program} {md : Region.Mode} {ops : Array Oper} {Q : Exit → Act → World → Prop} {p : Nat} {S : World → Prop} {fuel : Nat} {listed : Array Bool} {a : Act} {w : World}
/-- Two operations that may come up next. -/
theorem ap_two (i j : Nat) (hr : Region.ready md ops listed = [i, j]) (h1 : wpOp P ops Q i (fun a' w' => ((listed.setIfInBounds i true).getD p true = false → S w') ∧ wpAnyP P md ops Q p S fuel (listed.setIfInBounds i true) a' w') a w)
    (h2 : wpOp P ops Q j (fun a' w' => ((listed.setIfInBounds j true).getD p true = false → S w') ∧ wpAnyP P md ops Q p S fuel (listed.setIfInBounds j true) a' w') a w) :
    wpAnyP P md ops Q p S (fuel + 1) listed a w :=
  ⟨fun h0 => (by rw [hr] at h0; cases h0), fun q hq => by
    rw [hr] at hq
    simp at hq
    rcases hq with rfl | rfl
    · exact h1
    · exact h2⟩
end
end Go.Proofs.YtggjhjbcdnffnaaDoor

namespace Go.Proofs.YtggjhjbcdnffnaaDoor
open Go.RowKit

set_option maxRecDepth 100000 in
set_option maxHeartbeats 2000000 in
theorem beh_any (v : ImgV) (x : Img) (c : Cls) (T L : List Int) (task : Int) (w : World) (hTb : Tab w) (h : ImgAt w v x) (hc : c.Ok) (hT : T.length = 8) (_hL : L.length = 16) (hx : Small x) (hw : InW x.tasks.length c.to) :
    Calls Tryd.prog 14 #[.agg (shCells v x c T L).toArray, .int .i64 task] w fun e w' => e = .returned (numRes (behM x c T task)) ∧ Keep [] w w' := by
  obtain ⟨W1, hW1⟩ : ∃ W1, w.alloc (.cells (shCells v x c T L).toArray 37) = W1 := ⟨_, rfl⟩
  have b1 : Blk W1 w.heap.size 37 (shCells v x c T L).toArray := by rw [← hW1]; exact Blk.new _ _ _
  have K1 : Keep [] w W1 := by rw [← hW1]; exact (Keep.refl _ w).alloc _
  have HTo := fun w => Lib.hid (cto_any c w hc)
  have HHa := fun w => Lib.hid (has_any c.to task w hc.to)
  have HE := has_bitN c.to task
  have hparts : ∀ w', Keep [] W1 w' → CellsAt w' w.heap.size 0 (shCells v x c T L) ∧ CellsAt w' w.heap.size 0 (imgCells v x) ∧ CellsAt w' w.heap.size 4 (clsCells c) ∧ CellsAt w' w.heap.size 7 (iv T) := fun w' hk' => sh_parts (b1.keep0 hk') hT
  have HQC := Lib.hid (hparts W1 (Keep.refl _ _)).2.2.1
  cases hh : has10 c.to task with
  | false =>
    rw [hh] at HE
    rw [HE] at HHa
    have HR : Hid (numRes (behM x c T task) = .tuple #[.int .i64 0, .bool false]) := by show _ = _; unfold behM; rw [hh]; rfl
    have HW := Lib.hid hW1
    clear hW1 HE b1 h hTb hx hw hparts
    generalize (shCells v x c T L).toArray = sc at *
    go_enter Tryd.func14, Tryd.ntmps14
    go_wp2_with (first
      | rw [HW.out]
      | (refine wpList_load_agg rfl 33 (.tmp 8) rfl rfl (cs := clsCells c) agg_cls HQC.out ?_)
      | (refine (HTo _).out.mono ?_; rintro e w2 ⟨rfl, k2⟩)
      | (refine (HHa _).out.mono ?_; rintro e w3 ⟨rfl, rfl⟩))
    go_ret2
    exact ⟨by rw [HR.out]; rfl, K1.then k2⟩
  | true =>
    rw [hh] at HE
    rw [HE] at HHa
    have hr : 0 ≤ task ∧ task < 32 := by unfold has10 at hh; simp at hh; omega
    obtain ⟨k, rfl⟩ : ∃ k : Nat, task = (k : Int) := ⟨task.toNat, by omega⟩
    have hk : k < x.tasks.length := by
      rcases Nat.lt_or_ge k x.tasks.length with h1 | h1
      · exact h1
      · have := hw k h1
        rw [has10_nat (by omega)] at hh
        rw [hh] at this; cases this
    have hIC : Hid ((imgCells v x).length = 4) := show _ = _ from rfl
    have hTT : Hid (AggOf Tryd.prog 35 (iv T).length) := by show AggOf _ _ _; rw [iv_len, hT]; exact agg_tab
    have HBo := fun w => Lib.hid (both_any c w hc)
    have HR : Hid (numRes (behM x c T (k : Int)) = .tuple #[.int .i64 ((respAt x c.to c.both T k x.tasks[k]).getD 0), .bool (respAt x c.to c.both T k x.tasks[k]).isSome]) := by
      show _ = _
      unfold behM
      rw [hh, if_pos rfl, Int.toNat_natCast, List.getElem?_eq_getElem hk]; rfl
    have HRR : respRes (respM x c.to c.both T k) = .tuple #[.agg #[.int .i64 (k : Int), .int .i64 (blockM x.tasks c.both T k), .int .i64 ((respAt x c.to c.both T k x.tasks[k]).getD 0)], .bool (respAt x c.to c.both T k x.tasks[k]).isSome] := by
      unfold respM
      rw [if_neg (by omega), Int.toNat_natCast, List.getElem?_eq_getElem hk]; rfl
    have HRe0 := fun w' hk' => resp_any v x c.to c.both T k w' (hTb.keep0 (K1.then hk')) (h.keep0 (K1.then hk')) hc.to hc.both hT hx
    rw [HRR] at HRe0
    have HRe1 := fun w' (hk' : Keep [] W1 w') => Lib.hid (HRe0 w' hk')
    have HW := Lib.hid hW1
    clear hW1 HE b1 h hTb hx hw HRe0 HRR
    generalize respAt x c.to c.both T k x.tasks[k] = rs at *
    generalize blockM x.tasks c.both T k = bm at *
    generalize hsc : (shCells v x c T L) = sc at *
    go_enter Tryd.func14, Tryd.ntmps14
    go_wp2_with (first
      | rw [HW.out]
      | (refine wpList_load_agg rfl 33 (.tmp 8) rfl rfl (cs := clsCells c) agg_cls HQC.out ?_)
      | (refine (HTo _).out.mono ?_; rintro e w2 ⟨rfl, k2⟩)
      | (refine (HHa _).out.mono ?_; rintro e w1 ⟨rfl, rfl⟩))
    replace K1 := K1.then k2
    have HRe := fun w' (hk' : Keep [] w2 w') => HRe1 w' (k2.then hk')
    replace hparts := fun w' (hk' : Keep [] w2 w') => hparts w' (k2.then hk')
    clear HRe1 k2 HHa
    generalize w2 = w1 at *
    refine ap_begin 17 (Keep [] w1) rfl (Keep.refl _ _).drew (fun hS hPan => ?_) (fun _ _ d _ _ h => by cases d <;> exact h)
    generalize w1.drew = wd at *
    (refine ap_val (v := ?_) 0 rfl (by kernel_rfl) (by kernel_rfl) (by kernel_rfl) (by kernel_rfl) (by rfl) hPan ?_ hS ?_; rotate_left; (intro w' hSw; go_simp; try with_reducible rfl); simp only [Act.put, List.setIfInBounds_toArray, List.set_cons_zero, List.set_cons_succ])
    refine ap_agg 1 26 (.tmp 15) (imgCells v x) rfl (by kernel_rfl) (by kernel_rfl) (by kernel_rfl) (by kernel_rfl) (by rfl) hPan rfl rfl (by rw [hIC.out]; exact agg_image) (fun w' hw' => (hparts w' hw').2.1) hS ?_
    (simp only [Act.put, List.setIfInBounds_toArray, List.set_cons_zero, List.set_cons_succ])
    (refine ap_val (v := ?_) 2 rfl (by kernel_rfl) (by kernel_rfl) (by kernel_rfl) (by kernel_rfl) (by rfl) hPan ?_ hS ?_; rotate_left; (intro w' hSw; go_simp; try with_reducible rfl); simp only [Act.put, List.setIfInBounds_toArray, List.set_cons_zero, List.set_cons_succ])
    refine ap_agg 3 33 (.tmp 17) (clsCells c) rfl (by kernel_rfl) (by kernel_rfl) (by kernel_rfl) (by kernel_rfl) (by rfl) hPan rfl rfl agg_cls (fun w' hw' => (hparts w' hw').2.2.1) hS ?_
    (simp only [Act.put, List.setIfInBounds_toArray, List.set_cons_zero, List.set_cons_succ])
    (refine ap_val (v := ?_) 5 rfl (by kernel_rfl) (by kernel_rfl) (by kernel_rfl) (by kernel_rfl) (by rfl) hPan ?_ hS ?_; rotate_left; (intro w' hSw; go_simp; try with_reducible rfl); simp only [Act.put, List.setIfInBounds_toArray, List.set_cons_zero, List.set_cons_succ])
    refine ap_agg 6 33 (.tmp 20) (clsCells c) rfl (by kernel_rfl) (by kernel_rfl) (by kernel_rfl) (by kernel_rfl) (by rfl) hPan rfl rfl agg_cls (fun w' hw' => (hparts w' hw').2.2.1) hS ?_
    (simp only [Act.put, List.setIfInBounds_toArray, List.set_cons_zero, List.set_cons_succ])
    (refine ap_val (v := ?_) 8 rfl (by kernel_rfl) (by kernel_rfl) (by kernel_rfl) (by kernel_rfl) (by rfl) hPan ?_ hS ?_; rotate_left; (intro w' hSw; go_simp; try with_reducible rfl); simp only [Act.put, List.setIfInBounds_toArray, List.set_cons_zero, List.set_cons_succ])
    refine ap_agg 9 35 (.tmp 23) (iv T) rfl (by kernel_rfl) (by kernel_rfl) (by kernel_rfl) (by kernel_rfl) (by rfl) hPan rfl rfl hTT.out (fun w' hw' => (hparts w' hw').2.2.2) hS ?_
    (simp only [Act.put, List.setIfInBounds_toArray, List.set_cons_zero, List.set_cons_succ])
    (refine ap_val (v := ?_) 10 rfl (by kernel_rfl) (by kernel_rfl) (by kernel_rfl) (by kernel_rfl) (by rfl) hPan ?_ hS ?_; rotate_left; (intro w' hSw; go_simp; try with_reducible rfl); simp only [Act.put, List.setIfInBounds_toArray, List.set_cons_zero, List.set_cons_succ])
    refine ap_two 4 15 (by kernel_rfl) ?_ ?_
    · skip
      refine op_call (f := 45) 4 rfl (by rfl) rfl (by simp only [List.map_toArray, List.map_cons, List.map_nil]; rfl) Tryd.func45 (by kernel_rfl) (by kernel_rfl) (HTo _).out ?_
      rintro e w5 ⟨rfl, kq⟩
      replace hS := hS.then kq
      (try replace dg := dg.keep0 kq)
      refine ⟨_, rfl, fun _ => hS, ?_⟩
      clear kq
      (simp only [Act.put, List.setIfInBounds_toArray, List.set_cons_zero, List.set_cons_succ])
      refine ap_two 7 15 (by kernel_rfl) ?_ ?_
      · skip
        refine op_call (f := 38) 7 rfl (by rfl) rfl (by simp only [List.map_toArray, List.map_cons, List.map_nil]; rfl) Tryd.func38 (by kernel_rfl) (by kernel_rfl) (HBo _).out ?_
        rintro e w7 ⟨rfl, kq⟩
        replace hS := hS.then kq
        (try replace dg := dg.keep0 kq)
        refine ⟨_, rfl, fun _ => hS, ?_⟩
        clear kq
        (simp only [Act.put, List.setIfInBounds_toArray, List.set_cons_zero, List.set_cons_succ])
        refine ap_two 11 15 (by kernel_rfl) ?_ ?_
        · skip
          refine op_call (f := 46) 11 rfl (by rfl) rfl (by simp only [List.map_toArray, List.map_cons, List.map_nil]; rfl) Tryd.func46 (by kernel_rfl) (by kernel_rfl) (HRe _ hS).out ?_
          rintro e w11 ⟨rfl, kq⟩
          replace hS := hS.then kq
          (try replace dg := dg.keep0 kq)
          refine ⟨_, rfl, fun _ => hS, ?_⟩
          clear kq
          (simp only [Act.put, List.setIfInBounds_toArray, List.set_cons_zero, List.set_cons_succ])
          (refine ap_val (v := ?_) 12 rfl (by kernel_rfl) (by kernel_rfl) (by kernel_rfl) (by kernel_rfl) (by rfl) hPan ?_ hS ?_; rotate_left; (intro w' hSw; go_simp; try with_reducible rfl); simp only [Act.put, List.setIfInBounds_toArray, List.set_cons_zero, List.set_cons_succ])
          (refine ap_val (v := ?_) 13 rfl (by kernel_rfl) (by kernel_rfl) (by kernel_rfl) (by kernel_rfl) (by rfl) hPan ?_ hS ?_; rotate_left; (intro w' hSw; go_simp; try with_reducible rfl); simp only [Act.put, List.setIfInBounds_toArray, List.set_cons_zero, List.set_cons_succ])
          (refine ap_val (v := ?_) 14 rfl (by kernel_rfl) (by kernel_rfl) (by kernel_rfl) (by kernel_rfl) (by rfl) hPan ?_ hS ?_; rotate_left; (intro w' hSw; go_simp; try with_reducible rfl); simp only [Act.put, List.setIfInBounds_toArray, List.set_cons_zero, List.set_cons_succ])
          refine ap_one 15 (by kernel_rfl) ?_
          refine op_run (v := .pointer (some ⟨w11.heap.size, 0, none⟩)) (w' := w11.alloc (.cells #[.int .i64 0, .int .i64 0, .int .i64 0] 78)) 15 rfl (by rfl) (by go_simp) ?_
          have dg := Blk.new w11 78 #[.int .i64 0, .int .i64 0, .int .i64 0]
          have hgz : w1.heap.size ≤ w11.heap.size := hS.size
          replace hS := hS.alloc (.cells #[.int .i64 0, .int .i64 0, .int .i64 0] 78)
          refine ⟨fun _ => hS, ?_⟩
          generalize w11.alloc (.cells #[.int .i64 0, .int .i64 0, .int .i64 0] 78) = wa at *
          generalize w11.heap.size = gq at *
          (simp only [Act.put, List.setIfInBounds_toArray, List.set_cons_zero, List.set_cons_succ])
          refine ap_one 16 (by kernel_rfl) ?_
          refine op_store_all (vs := [.int .i64 (k : Int), .int .i64 bm, .int .i64 (rs.getD 0)]) 16 rfl (by rfl) rfl rfl rfl (by kernel_rfl) dg (by simp [Value.oneCell']) rfl ?_
          intro w16 d16 k16
          have K16 : Keep [] w1 w16 := hS.trans k16 (fun y hy hlt => by simp at hy; omega)
          refine ⟨fun _ => K16, ?_⟩
          (simp only [Act.put])
          refine ap_one 17 (by kernel_rfl) ?_
          refine op_run (v := .bool rs.isSome) (w' := w16) 17 rfl (by rfl) (by go_simp) ?_
          refine ⟨fun h => (by cases h), ap_done (by kernel_rfl) ?_ _⟩
          (simp only [Act.put, List.setIfInBounds_toArray, List.set_cons_zero, List.set_cons_succ])
          have c16 := d16.cell 2
          simp at c16
          clear hPan hS
          go_wp2
          go_ret2
          exact ⟨by rw [HR.out]; rfl, K1.then K16⟩
        · skip
          refine op_run (v := .pointer (some ⟨w7.heap.size, 0, none⟩)) (w' := w7.alloc (.cells #[.int .i64 0, .int .i64 0, .int .i64 0] 78)) 15 rfl (by rfl) (by go_simp) ?_
          have dg := Blk.new w7 78 #[.int .i64 0, .int .i64 0, .int .i64 0]
          have hgz : w1.heap.size ≤ w7.heap.size := hS.size
          replace hS := hS.alloc (.cells #[.int .i64 0, .int .i64 0, .int .i64 0] 78)
          refine ⟨fun _ => hS, ?_⟩
          generalize w7.alloc (.cells #[.int .i64 0, .int .i64 0, .int .i64 0] 78) = wa at *
          generalize w7.heap.size = gq at *
          (simp only [Act.put, List.setIfInBounds_toArray, List.set_cons_zero, List.set_cons_succ])
          refine ap_one 11 (by kernel_rfl) ?_
          refine op_call (f := 46) 11 rfl (by rfl) rfl (by simp only [List.map_toArray, List.map_cons, List.map_nil]; rfl) Tryd.func46 (by kernel_rfl) (by kernel_rfl) (HRe _ hS).out ?_
          rintro e w11 ⟨rfl, kq⟩
          replace hS := hS.then kq
          (try replace dg := dg.keep0 kq)
          refine ⟨_, rfl, fun _ => hS, ?_⟩
          clear kq
          (simp only [Act.put, List.setIfInBounds_toArray, List.set_cons_zero, List.set_cons_succ])
          (refine ap_val (v := ?_) 12 rfl (by kernel_rfl) (by kernel_rfl) (by kernel_rfl) (by kernel_rfl) (by rfl) hPan ?_ hS ?_; rotate_left; (intro w' hSw; go_simp; try with_reducible rfl); simp only [Act.put, List.setIfInBounds_toArray, List.set_cons_zero, List.set_cons_succ])
          (refine ap_val (v := ?_) 13 rfl (by kernel_rfl) (by kernel_rfl) (by kernel_rfl) (by kernel_rfl) (by rfl) hPan ?_ hS ?_; rotate_left; (intro w' hSw; go_simp; try with_reducible rfl); simp only [Act.put, List.setIfInBounds_toArray, List.set_cons_zero, List.set_cons_succ])
          (refine ap_val (v := ?_) 14 rfl (by kernel_rfl) (by kernel_rfl) (by kernel_rfl) (by kernel_rfl) (by rfl) hPan ?_ hS ?_; rotate_left; (intro w' hSw; go_simp; try with_reducible rfl); simp only [Act.put, List.setIfInBounds_toArray, List.set_cons_zero, List.set_cons_succ])
          refine ap_one 16 (by kernel_rfl) ?_
          refine op_store_all (vs := [.int .i64 (k : Int), .int .i64 bm, .int .i64 (rs.getD 0)]) 16 rfl (by rfl) rfl rfl rfl (by kernel_rfl) dg (by simp [Value.oneCell']) rfl ?_
          intro w16 d16 k16
          have K16 : Keep [] w1 w16 := hS.trans k16 (fun y hy hlt => by simp at hy; omega)
          refine ⟨fun _ => K16, ?_⟩
          (simp only [Act.put])
          refine ap_one 17 (by kernel_rfl) ?_
          refine op_run (v := .bool rs.isSome) (w' := w16) 17 rfl (by rfl) (by go_simp) ?_
          refine ⟨fun h => (by cases h), ap_done (by kernel_rfl) ?_ _⟩
          (simp only [Act.put, List.setIfInBounds_toArray, List.set_cons_zero, List.set_cons_succ])
          have c16 := d16.cell 2
          simp at c16
          clear hPan hS
          go_wp2
          go_ret2
          exact ⟨by rw [HR.out]; rfl, K1.then K16⟩
      · skip
        refine op_run (v := .pointer (some ⟨w5.heap.size, 0, none⟩)) (w' := w5.alloc (.cells #[.int .i64 0, .int .i64 0, .int .i64 0] 78)) 15 rfl (by rfl) (by go_simp) ?_
        have dg := Blk.new w5 78 #[.int .i64 0, .int .i64 0, .int .i64 0]
        have hgz : w1.heap.size ≤ w5.heap.size := hS.size
        replace hS := hS.alloc (.cells #[.int .i64 0, .int .i64 0, .int .i64 0] 78)
        refine ⟨fun _ => hS, ?_⟩
        generalize w5.alloc (.cells #[.int .i64 0, .int .i64 0, .int .i64 0] 78) = wa at *
        generalize w5.heap.size = gq at *
        (simp only [Act.put, List.setIfInBounds_toArray, List.set_cons_zero, List.set_cons_succ])
        refine ap_one 7 (by kernel_rfl) ?_
        refine op_call (f := 38) 7 rfl (by rfl) rfl (by simp only [List.map_toArray, List.map_cons, List.map_nil]; rfl) Tryd.func38 (by kernel_rfl) (by kernel_rfl) (HBo _).out ?_
        rintro e w7 ⟨rfl, kq⟩
        replace hS := hS.then kq
        (try replace dg := dg.keep0 kq)
        refine ⟨_, rfl, fun _ => hS, ?_⟩
        clear kq
        (simp only [Act.put, List.setIfInBounds_toArray, List.set_cons_zero, List.set_cons_succ])
        refine ap_one 11 (by kernel_rfl) ?_
        refine op_call (f := 46) 11 rfl (by rfl) rfl (by simp only [List.map_toArray, List.map_cons, List.map_nil]; rfl) Tryd.func46 (by kernel_rfl) (by kernel_rfl) (HRe _ hS).out ?_
        rintro e w11 ⟨rfl, kq⟩
        replace hS := hS.then kq
        (try replace dg := dg.keep0 kq)
        refine ⟨_, rfl, fun _ => hS, ?_⟩
        clear kq
        (simp only [Act.put, List.setIfInBounds_toArray, List.set_cons_zero, List.set_cons_succ])
        (refine ap_val (v := ?_) 12 rfl (by kernel_rfl) (by kernel_rfl) (by kernel_rfl) (by kernel_rfl) (by rfl) hPan ?_ hS ?_; rotate_left; (intro w' hSw; go_simp; try with_reducible rfl); simp only [Act.put, List.setIfInBounds_toArray, List.set_cons_zero, List.set_cons_succ])
        (refine ap_val (v := ?_) 13 rfl (by kernel_rfl) (by kernel_rfl) (by kernel_rfl) (by kernel_rfl) (by rfl) hPan ?_ hS ?_; rotate_left; (intro w' hSw; go_simp; try with_reducible rfl); simp only [Act.put, List.setIfInBounds_toArray, List.set_cons_zero, List.set_cons_succ])
        (refine ap_val (v := ?_) 14 rfl (by kernel_rfl) (by kernel_rfl) (by kernel_rfl) (by kernel_rfl) (by rfl) hPan ?_ hS ?_; rotate_left; (intro w' hSw; go_simp; try with_reducible rfl); simp only [Act.put, List.setIfInBounds_toArray, List.set_cons_zero, List.set_cons_succ])
        refine ap_one 16 (by kernel_rfl) ?_
        refine op_store_all (vs := [.int .i64 (k : Int), .int .i64 bm, .int .i64 (rs.getD 0)]) 16 rfl (by rfl) rfl rfl rfl (by kernel_rfl) dg (by simp [Value.oneCell']) rfl ?_
        intro w16 d16 k16
        have K16 : Keep [] w1 w16 := hS.trans k16 (fun y hy hlt => by simp at hy; omega)
        refine ⟨fun _ => K16, ?_⟩
        (simp only [Act.put])
        refine ap_one 17 (by kernel_rfl) ?_
        refine op_run (v := .bool rs.isSome) (w' := w16) 17 rfl (by rfl) (by go_simp) ?_
        refine ⟨fun h => (by cases h), ap_done (by kernel_rfl) ?_ _⟩
        (simp only [Act.put, List.setIfInBounds_toArray, List.set_cons_zero, List.set_cons_succ])
        have c16 := d16.cell 2
        simp at c16
        clear hPan hS
        go_wp2
        go_ret2
        exact ⟨by rw [HR.out]; rfl, K1.then K16⟩
    · skip
      refine op_run (v := .pointer (some ⟨wd.heap.size, 0, none⟩)) (w' := wd.alloc (.cells #[.int .i64 0, .int .i64 0, .int .i64 0] 78)) 15 rfl (by rfl) (by go_simp) ?_
      have dg := Blk.new wd 78 #[.int .i64 0, .int .i64 0, .int .i64 0]
      have hgz : w1.heap.size ≤ wd.heap.size := hS.size
      replace hS := hS.alloc (.cells #[.int .i64 0, .int .i64 0, .int .i64 0] 78)
      refine ⟨fun _ => hS, ?_⟩
      generalize wd.alloc (.cells #[.int .i64 0, .int .i64 0, .int .i64 0] 78) = wa at *
      generalize wd.heap.size = gq at *
      (simp only [Act.put, List.setIfInBounds_toArray, List.set_cons_zero, List.set_cons_succ])
      refine ap_one 4 (by kernel_rfl) ?_
      refine op_call (f := 45) 4 rfl (by rfl) rfl (by simp only [List.map_toArray, List.map_cons, List.map_nil]; rfl) Tryd.func45 (by kernel_rfl) (by kernel_rfl) (HTo _).out ?_
      rintro e w5 ⟨rfl, kq⟩
      replace hS := hS.then kq
      (try replace dg := dg.keep0 kq)
      refine ⟨_, rfl, fun _ => hS, ?_⟩
      clear kq
      (simp only [Act.put, List.setIfInBounds_toArray, List.set_cons_zero, List.set_cons_succ])
      refine ap_one 7 (by kernel_rfl) ?_
      refine op_call (f := 38) 7 rfl (by rfl) rfl (by simp only [List.map_toArray, List.map_cons, List.map_nil]; rfl) Tryd.func38 (by kernel_rfl) (by kernel_rfl) (HBo _).out ?_
      rintro e w7 ⟨rfl, kq⟩
      replace hS := hS.then kq
      (try replace dg := dg.keep0 kq)
      refine ⟨_, rfl, fun _ => hS, ?_⟩
      clear kq
      (simp only [Act.put, List.setIfInBounds_toArray, List.set_cons_zero, List.set_cons_succ])
      refine ap_one 11 (by kernel_rfl) ?_
      refine op_call (f := 46) 11 rfl (by rfl) rfl (by simp only [List.map_toArray, List.map_cons, List.map_nil]; rfl) Tryd.func46 (by kernel_rfl) (by kernel_rfl) (HRe _ hS).out ?_
      rintro e w11 ⟨rfl, kq⟩
      replace hS := hS.then kq
      (try replace dg := dg.keep0 kq)
      refine ⟨_, rfl, fun _ => hS, ?_⟩
      clear kq
      (simp only [Act.put, List.setIfInBounds_toArray, List.set_cons_zero, List.set_cons_succ])
      (refine ap_val (v := ?_) 12 rfl (by kernel_rfl) (by kernel_rfl) (by kernel_rfl) (by kernel_rfl) (by rfl) hPan ?_ hS ?_; rotate_left; (intro w' hSw; go_simp; try with_reducible rfl); simp only [Act.put, List.setIfInBounds_toArray, List.set_cons_zero, List.set_cons_succ])
      (refine ap_val (v := ?_) 13 rfl (by kernel_rfl) (by kernel_rfl) (by kernel_rfl) (by kernel_rfl) (by rfl) hPan ?_ hS ?_; rotate_left; (intro w' hSw; go_simp; try with_reducible rfl); simp only [Act.put, List.setIfInBounds_toArray, List.set_cons_zero, List.set_cons_succ])
      (refine ap_val (v := ?_) 14 rfl (by kernel_rfl) (by kernel_rfl) (by kernel_rfl) (by kernel_rfl) (by rfl) hPan ?_ hS ?_; rotate_left; (intro w' hSw; go_simp; try with_reducible rfl); simp only [Act.put, List.setIfInBounds_toArray, List.set_cons_zero, List.set_cons_succ])
      refine ap_one 16 (by kernel_rfl) ?_
      refine op_store_all (vs := [.int .i64 (k : Int), .int .i64 bm, .int .i64 (rs.getD 0)]) 16 rfl (by rfl) rfl rfl rfl (by kernel_rfl) dg (by simp [Value.oneCell']) rfl ?_
      intro w16 d16 k16
      have K16 : Keep [] w1 w16 := hS.trans k16 (fun y hy hlt => by simp at hy; omega)
      refine ⟨fun _ => K16, ?_⟩
      (simp only [Act.put])
      refine ap_one 17 (by kernel_rfl) ?_
      refine op_run (v := .bool rs.isSome) (w' := w16) 17 rfl (by rfl) (by go_simp) ?_
      refine ⟨fun h => (by cases h), ap_done (by kernel_rfl) ?_ _⟩
      (simp only [Act.put, List.setIfInBounds_toArray, List.set_cons_zero, List.set_cons_succ])
      have c16 := d16.cell 2
      simp at c16
      clear hPan hS
      go_wp2
      go_ret2
      exact ⟨by rw [HR.out]; rfl, K1.then K16⟩
end Go.Proofs.YtggjhjbcdnffnaaDoor
