/- A task's window (window.Shift's Window). Condition: the table of math/bits lies where the program's text lays it; small numbers. Two operations may come up next; no condition. A task's time behind a change, and whether it may be late (window.Shift's Behind, late). Condition: the table of math/bits lies where the program's text lays it; small numbers. -/
import Derived.Test.YteflgdnekflbbaaDoorWinT
import Derived.Test.YteflgdnekflbbaaDoorRangeB
import Derived.Test.YteflgdnekflbbaaDoorMaskAll
import Derived.Test.YteflgdnekflbbaaDoorPend
namespace Go.Proofs.YteflgdnekflbbaaDoor
open Go.RowKit
attribute [local go_sem] Oper.semAt_some

theorem slice_trmW : SliceOf Tryd.prog 140 144 4 32 := ⟨Tryd.underlying140, by kernel_rfl, by decide⟩
theorem trm_one (t : Trm) : ∀ u ∈ trmCells t, u.oneCell' = true := by
  intro u hu
  simp only [trmCells, List.mem_cons, List.not_mem_nil, or_false] at hu
  rcases hu with rfl | rfl | rfl | rfl <;> rfl
set_option maxRecDepth 100000 in
set_option maxHeartbeats 2000000 in
theorem win_any (v : ImgV) (x : Img) (c : Cls) (T L : List Int) (task : Int) (w : World) (hTb : Tab w) (h : ImgAt w v x) (hc : c.Ok) (hT : T.length = 8) (hL : OffOk L) (hx : Small x) (hw : InW x.tasks.length c.both) :
    Calls Tryd.prog 72 #[.agg (shCells v x c T L).toArray, .int .i64 task] w fun e w' => e = .returned (numRes (winM x c T L task)) ∧ Keep [] w w' := by
  rw [← callsIn_wide (n := 9)]
  refine callsIn_of_wp_marks Tryd.func72 rfl trivial ?_ rfl
  simp only [Tryd.ntmps72, List.size_toArray, List.length_cons, List.length_nil, Nat.reduceAdd, Nat.reduceSub, Array.replicate_succ, Array.replicate_zero, List.push_toArray, List.append_toArray, List.nil_append, List.cons_append]
  obtain ⟨W1, hW1⟩ : ∃ W1, w.alloc (.cells (shCells v x c T L).toArray 120) = W1 := ⟨_, rfl⟩
  have b1 : Blk W1 w.heap.size 120 (shCells v x c T L).toArray := by rw [← hW1]; exact Blk.new _ _ _
  have K1 : Keep [] w W1 := by rw [← hW1]; exact (Keep.refl _ w).alloc _
  have hz1 : W1.heap.size = w.heap.size + 1 := by rw [← hW1]; simp
  obtain ⟨q0, qI, qC, qT⟩ := sh_parts b1 hT
  have c1 : W1.cell? ⟨w.heap.size, 1, none⟩ = some (.slice v.ta x.tasks.length v.tc) := by rw [b1.cell]; rfl
  have HBo := fun w => Lib.hid (both_any c w hc)
  have HHa := fun w => Lib.hid (has_any c.both task w hc.both)
  have HE := has_bitN c.both task
  have HSL : Hid ((shCells v x c T L).length = 31) := shCells_len v x c hT hL.1
  have HQ0 := Lib.hid q0
  have HQC := Lib.hid qC
  cases hh : has10 c.both task with
  | false =>
    rw [hh] at HE
    rw [HE] at HHa
    have HR : Hid (numRes (winM x c T L task) = .tuple #[.int .i64 0, .bool false]) := by show _ = _; unfold winM; rw [hh]; rfl
    have HW := Lib.hid hW1
    clear hW1 HE b1 q0 qI qC qT h hTb hx hL hw
    generalize (shCells v x c T L).toArray = sc at *
    gi_wp2_with (first
      | rw [HW.out]
      | (refine wpListIn_agg rfl 114 (.tmp 10) rfl rfl (cs := clsCells c) agg_cls HQC.out ?_)
      | (refine ⟨trivial, ?_⟩; gi_at_call 46; refine (callsIn_wide.2 (HBo _).out).mono ?_; rintro e w2 ⟨rfl, k2⟩)
      | (refine ⟨trivial, ?_⟩; gi_at_call 66; refine (callsIn_wide.2 (HHa _).out).mono ?_; rintro e w3 ⟨rfl, rfl⟩))
    exact ⟨.tuple #[.int .i64 0, .bool false], by simp [results, Tryd.results72, go_sem], by rw [HR.out], K1.then k2⟩
  | true =>
    rw [hh] at HE
    rw [HE] at HHa
    have hr : 0 ≤ task ∧ task < 32 := by unfold has10 at hh; simp at hh; omega
    obtain ⟨k, rfl⟩ : ∃ k : Nat, task = (k : Int) := ⟨task.toNat, by omega⟩
    have hk : k < x.tasks.length := by
      rcases Nat.lt_or_ge k x.tasks.length with h1 | h1
      · exact h1
      · have := hw k h1
        rw [has10_nat (by omega)] at hh
        rw [hh] at this; cases this
    have hn := hx.n
    have p0 : (0 : Int) ≤ (k : Int) := by omega
    have p1 : (k : Int) < (x.tasks.length : Int) := by omega
    have hdec : decide (x.tasks.length ≤ k) = false := by simp; omega
    have HW := Lib.hid hW1
    have HB1 := Lib.hid b1
    have HI := Lib.hid h
    have HTB := Lib.hid hTb
    have HSS := fun Bs Bt W0 hw0 hBs hBt hbs hbt => Lib.hid (wterms1_seq 8 v x c T L k w W0 h hTb hw0 hc hT hL.1 (by omega) hn Bs Bt hBs hBt hbs hbt)
    have HTE := fun w => Lib.hid (wterms_any v x c T L (k : Int) w)
    have HF1 : ∀ w', Keep [] W1 w' → w'.cell? ⟨w.heap.size, 1, none⟩ = some (.slice v.ta x.tasks.length v.tc) := fun w' hk' => (hk'.cell (p := ⟨w.heap.size, 1, none⟩) b1.lt (by simp)).trans c1
    have HF0 : ∀ w', Keep [] W1 w' → CellsAt w' w.heap.size 0 (shCells v x c T L) := fun w' hk' => (b1.keep0 hk').cellsAt
    clear hW1 HE b1 q0 qI qC qT h hTb
    generalize hsc : shCells v x c T L = sc at *
    gi_wp2_with (first
      | rw [HW.out]
      | (refine wpListIn_agg rfl 114 (.tmp 10) rfl rfl (cs := clsCells c) agg_cls HQC.out ?_)
      | (refine ⟨trivial, ?_⟩; gi_at_call 46; refine (callsIn_wide.2 (HBo _).out).mono ?_; rintro e w2 ⟨rfl, k2⟩; have d1 := HF1 w2 k2; have HD0 := Lib.hid (HF0 (w2.alloc (.cells #[.slice none 0 0] 140)) (k2.alloc _)))
      | (refine ⟨trivial, ?_⟩; gi_at_call 66; refine (callsIn_wide.2 (HHa _).out).mono ?_; rintro e w3 ⟨rfl, rfl⟩)
      | (refine wpListIn_agg rfl 120 (.tmp 2) rfl rfl (cs := sc) (by rw [HSL.out]; exact agg_shift) HD0.out ?_)
      | (refine ⟨trivial, ?_⟩; gi_at_call 78; refine (callsIn_wide.2 (HTE _).out).mono ?_; rintro e w3 ⟨rfl, rfl⟩))
    obtain ⟨W0, hW0⟩ : ∃ W0, ((w2.alloc (.cells #[.slice none 0 0] 140)).alloc (.cells sc.toArray 120)).alloc (.cells #[.int .i64 (k : Int)] 3) = W0 := ⟨_, rfl⟩
    have hsz : W0.heap.size = w2.heap.size + 3 := by rw [← hW0]; simp
    have e0 : Blk W0 w2.heap.size 140 #[.slice none 0 0] := by rw [← hW0]; exact ((Blk.new _ _ _).alloc _).alloc _
    have e1 : Blk W0 (w2.heap.size + 1) 120 sc.toArray := by rw [← hW0]; exact (Blk.new1 _ _ _ _).alloc _
    have e2 : Blk W0 (w2.heap.size + 2) 3 #[.int .i64 (k : Int)] := by rw [← hW0]; exact Blk.new2 _ _ _ _ _
    have K2 : Keep [] W1 W0 := by rw [← hW0]; exact ((k2.alloc _).alloc _).alloc _
    have K0 : Keep [] w W0 := K1.then K2
    have hz2 := k2.size
    simp only [hW0]
    have hss := (HSS (w2.heap.size + 1) (w2.heap.size + 2) W0 K0.below (by omega) (by omega) e1 e2).out
    have hal := aheadW_le x.tasks c L (k : Int)
    have HAL := Lib.hid hal
    clear hW0 HSS HTE HD0 d1 HHa HQC HQ0 hal
    refine wpIn_rangeB (F := Fence.wide) (n := 9) (Lo := LoN) (ps := #[27]) rfl (by omega) (gf := 82) (lb := #[.pointer (some ⟨w2.heap.size + 1, 0, none⟩), .pointer (some ⟨w2.heap.size + 2, 0, none⟩)]) rfl trivial (enters_of Tryd.func82 (by kernel_rfl) rfl)
      hss KpU.trans (fun W o o' h1 h2 => kpu_put o' (by omega) (by omega) h1 h2) (Below.refl _ _) (fun _ => rfl)
      (fun pre W' => ∃ V, Blk W' w2.heap.size 140 #[V] ∧ W'.ownsRow W0.heap.size 144 4 V pre.length (pre.flatMap trmCells) ∧ Keep [w2.heap.size] W0 W')
      (fun _ _ _ => False)
      (box_rowT (β := List Trm) (show w2.heap.size < W0.heap.size by omega) (fun pre => pre.length) (fun pre => pre.flatMap trmCells)) (fun _ _ _ _ _ hs _ _ => hs) ⟨_, e0, World.ownsRow_nil _ _ _ _, Keep.refl _ _⟩
      (fun y a1 W' => ∃ g, Blk W' g 144 (trmCells y).toArray ∧ a1 = { tmps := #[.agg sc.toArray, .int .i64 (k : Int), .pointer (some ⟨w.heap.size, 0, none⟩), undef, .int .i64 0, .bool false, .pointer (some ⟨w2.heap.size, 0, none⟩), .pointer (some ⟨g, 0, none⟩), undef, undef,
        .pointer (some ⟨w.heap.size, 4, none⟩), .agg (clsCells c).toArray, .int .u32 (c.both : Int), .int .i64 (k : Int), .bool true, .bool false, .bool false, .int .i64 (k : Int), .pointer (some ⟨w.heap.size, 0, none⟩), .pointer (some ⟨w.heap.size, 1, none⟩), .slice v.ta x.tasks.length v.tc,
        .int .i64 (x.tasks.length : Int), .bool false, .bool false, .agg sc.toArray, .int .i64 (k : Int), .func (.func 82) #[] #[.pointer (some ⟨w2.heap.size + 1, 0, none⟩), .pointer (some ⟨w2.heap.size + 2, 0, none⟩)], .agg (trmCells y).toArray,
        undef, undef, undef, undef, undef, undef, undef, undef, undef, undef, undef, undef, undef, undef, undef, undef, undef, undef, undef, undef, undef, undef, undef, undef, undef, undef, undef, undef, undef, undef, undef, undef, undef], defers := [] })
      ?hPA ?hKa ?assign ?body ?done ?stop
    case hPA =>
      rintro y a1 _ X Y row ⟨g, hb, e⟩ hg hr
      exact ⟨g, blk_own (β := Unit) _ _ (fun _ => _) () X Y row hb hg hr, e⟩
    case hKa => exact fun W W2 hz k => kpu_keep0 k (by omega)
    case assign =>
      intro l y W K hz hK
      simp only [encT]
      gi_wp2_with (refine stopIn_store 144 (.tmp 7) (.tmp 27) rfl ?_)
      constructor
      refine wpListIn_store_all rfl 144 (.tmp 7) (.tmp 27) rfl rfl rfl (vs := trmCells y) (by kernel_rfl) (Blk.new _ _ _) (trm_one y) rfl ?_
      intro w5 d5 k5
      gi_wp2
      exact hK _ _ (((Keep.refl [] W).alloc _).trans k5 (fun z hz hlt => by simp at hz; omega)) ⟨W.heap.size, d5, rfl⟩
    case body =>
      rintro l pre ⟨y1, y2, y3, y4⟩ a1 W hz ⟨V, hv, hrow, hK⟩ ⟨g, hg, rfl⟩ hpre
      have hone := trm_one ⟨y1, y2, y3, y4⟩
      simp only [show trmCells ⟨y1, y2, y3, y4⟩ = [.int .i64 y1, .int .i64 y2, .int .i64 y3, .int .i64 y4] from rfl] at hg hone ⊢
      have hcv := hv.cell 0
      simp at hcv
      obtain ⟨A, cp, rfl⟩ := own_shape hrow
      have hne := own_blk_ne hrow hv (by decide)
      have hB : W0.heap.size ≤ W.heap.size := hK.size
      have hlen := hpre.length_le
      simp only [List.length_append, List.length_cons, List.length_nil] at hlen
      have hal := HAL.out
      have hgc := Lib.hid hg.cellsAt
      gi_wp2_with (first
        | (refine wpListIn_agg rfl 144 (.tmp 7) rfl rfl (cs := [.int .i64 y1, .int .i64 y2, .int .i64 y3, .int .i64 y4]) agg_term hgc.out ?_)
        | (gi_at_builtin; refine wpListIn_append_one rfl (.tmp 28) (.tmp 30) 140 rfl slice_trmW hrow rfl rfl (us := [.int .i64 y1, .int .i64 y2, .int .i64 y3, .int .i64 y4]) rfl hone hB (by omega) (by unfold maxLen; omega) ?_; intro v' w1 hown1 hk1 hat1; obtain ⟨A', c', rfl⟩ := own_shape hown1; have hv1 := hv.keep hk1 (by simpa using hne); have hc1 := hv1.cell 0; have hf1 := hv1.frozen 0; simp at hc1))
      obtain ⟨n1, n2, n3⟩ := boxed_append hrow hv (by decide) hk1 hown1
      have hlt' := fun z hz => (hrow.lt z (by simpa using hz)).1
      refine ⟨n3.from (fun z hz => ?_), kpu_of n3 (fun z hz => ?_) (by omega), _, n1, ?_, ?_⟩
      · rcases List.mem_cons.1 hz with rfl | hz
        · exact .inl (by omega)
        · exact .inr (own_cells hrow z hz)
      · rcases List.mem_cons.1 hz with rfl | hz
        · exact ⟨by omega, _, _, _, hv, by decide⟩
        · obtain ⟨cs, fr, h1⟩ := row_typed hrow z hz
          exact ⟨by have := hlt' z (by simpa using hz); omega, cs, _, fr, h1, by decide⟩
      · rw [List.length_append, List.flatMap_append]
        simpa [trmCells] using n2
      · refine hK.trans n3 (fun z hz hzs => ?_)
        rcases List.mem_cons.1 hz with h | h
        · simp [h]
        · have := hlt' z (by simpa using h); omega
    case stop => exact fun _ _ _ _ _ _ h _ => h.elim
    case done =>
      rintro D Wd hD ⟨V, hv, hrow, hK⟩ hD2
      have Kd : Keep [] w Wd := K0.trans hK (fun z hz hlt => by simp at hz; omega)
      have Kd1 : Keep [] W1 Wd := K2.trans hK (fun z hz hlt => by simp at hz; omega)
      have bd : Blk Wd w.heap.size 120 sc.toArray := HB1.out.keep0 Kd1
      have hcv := hv.cell 0
      simp at hcv
      obtain ⟨A, cp, rfl⟩ := own_shape hrow
      obtain ⟨b, o, hA, hbw, hcs2⟩ := HI.out.task (by omega)
      have htc := (hcs2 k hk).keep0 Kd hbw
      have hl8 := HI.out.ok.lon _ (List.getElem_mem hk)
      have HTL : Hid ((tskCells x.tasks[k]).length = 11) := tskCells_len hl8
      have hone : ∀ u ∈ tskCells x.tasks[k], u.oneCell' = true := iv_one (tskInts x.tasks[k])
      have dc1 := HF1 Wd Kd1
      rw [hA] at dc1
      have HTC := Lib.hid htc
      have hcost := hx.cost _ (List.getElem_mem hk)
      have hded := hx.ded _ (List.getElem_mem hk)
      have hoff := offW_le (c := c) hL (k : Int)
      have HWN : Hid (winM x c T L (k : Int) = leastM (x.tasks[k].cost + blockM x.tasks c.both T (k : Int)) (x.tasks[k].ded + offW c L (k : Int)) (allM (aheadW x.tasks c L (k : Int)))) := by
        show _ = _
        unfold winM winAt
        rw [hh, if_pos rfl, Int.toNat_natCast, List.getElem?_eq_getElem hk]
      have hbz := blockIn_le hx (bitsL (aboveN c.both (k : Int))) (bitsL (overK T (k : Int) 8))
      have hbb : 0 ≤ blockM x.tasks c.both T k ∧ blockM x.tasks c.both T k ≤ 200000 := by
        have := bitsL_le (overK T (k : Int) 8)
        unfold blockM
        omega
      have HBl := fun w' hk' => Lib.hid (block_any v x c.both T k w' (HTB.out.keep0 (Kd.then hk')) (HI.out.keep0 (Kd.then hk')) hc.both hT hx)
      have HOf := fun w => Lib.hid (off_any v x c T L (k : Int) w hc hT hL.1 (fun _ => by omega))
      have HFL := fun A c' w' hr => Lib.hid (fleast_any A c' (aheadW x.tasks c L (k : Int)) (x.tasks[k].cost + blockM x.tasks c.both T (k : Int)) (x.tasks[k].ded + offW c L (k : Int)) w' hr (by have := HAL.out; omega))
      have hRd := Reads.of_own hrow
      have g1 : (tskCells x.tasks[k])[1]? = some (.int .i64 x.tasks[k].ded) := rfl
      have g2 : (tskCells x.tasks[k])[2]? = some (.int .i64 x.tasks[k].cost) := rfl
      rw [hsc] at HOf
      have hIC : Hid ((imgCells v x).length = 4) := show _ = _ from rfl
      have hTT : Hid (AggOf Tryd.prog 104 (iv T).length) := by show AggOf _ _ _; rw [iv_len, hT]; exact agg_tab
      have hparts : ∀ w', Keep [] Wd w' → CellsAt w' w.heap.size 0 sc ∧ CellsAt w' w.heap.size 0 (imgCells v x) ∧ CellsAt w' w.heap.size 4 (clsCells c) ∧ CellsAt w' w.heap.size 7 (iv T) := fun w' hk' => by
        have := bd.keep0 hk'
        rw [← hsc] at this ⊢
        exact sh_parts this hT
      clear HI HTB HF1 HF0 HB1 htc hcs2 hRd bd hbz
      generalize hbm : blockM x.tasks c.both T (k : Int) = bm at *
      generalize x.tasks[k].cost = tco at *
      generalize x.tasks[k].ded = tde at *
      generalize hof : offW c L (k : Int) = oo at *
      generalize tskCells x.tasks[k] = tc at *
      gi_wp2_with (first
        | (refine wpListIn_agg rfl 88 (.tmp 36) rfl rfl (cs := tc) (by rw [HTL.out]; exact agg_task) HTC.out ?_)
        | (refine stopIn_store 88 (.tmp 8) (.tmp 37) rfl ?_))
      constructor
      refine wpListIn_store_all rfl 88 (.tmp 8) (.tmp 37) rfl rfl rfl (vs := tc) (by rw [HTL.out]; exact agg_task.2) (Blk.new _ _ _) hone (by rw [HTL.out]; rfl) ?_
      intro w4 d4 k4
      have K4 : Keep [] Wd w4 := ((Keep.refl [] Wd).alloc _).trans k4 (fun y hy hlt => by simp at hy; omega)
      have hz4 := K4.size
      gi_wp2
      refine ai_start (Keep [] w4) rfl rfl (Keep.refl _ _).drew (fun hND hS hPan => ?_)
      (refine ai_val (v := ?_) 0 rfl open_wide hND (by kernel_rfl) (by kernel_rfl) (by kernel_rfl) (by rfl) hPan ?_ hS ?_; rotate_left; (intro w' hSw; go_simp; try with_reducible rfl); simp only [Act.put, List.setIfInBounds_toArray, List.set_cons_zero, List.set_cons_succ])
      refine ai_agg 1 26 (.tmp 38) (imgCells v x) rfl open_wide hND (by kernel_rfl) (by kernel_rfl) (by kernel_rfl) (by rfl) hPan rfl rfl (by rw [hIC.out]; exact agg_image) (fun w' hw' => (hparts w' (K4.then hw')).2.1) hS ?_
      (simp only [Act.put, List.setIfInBounds_toArray, List.set_cons_zero, List.set_cons_succ])
      (refine ai_val (v := ?_) 2 rfl open_wide hND (by kernel_rfl) (by kernel_rfl) (by kernel_rfl) (by rfl) hPan ?_ hS ?_; rotate_left; (intro w' hSw; go_simp; try with_reducible rfl); simp only [Act.put, List.setIfInBounds_toArray, List.set_cons_zero, List.set_cons_succ])
      refine ai_agg 3 114 (.tmp 40) (clsCells c) rfl open_wide hND (by kernel_rfl) (by kernel_rfl) (by kernel_rfl) (by rfl) hPan rfl rfl agg_cls (fun w' hw' => (hparts w' (K4.then hw')).2.2.1) hS ?_
      (simp only [Act.put, List.setIfInBounds_toArray, List.set_cons_zero, List.set_cons_succ])
      (refine ai_val (v := ?_) 5 rfl open_wide hND (by kernel_rfl) (by kernel_rfl) (by kernel_rfl) (by rfl) hPan ?_ hS ?_; rotate_left; (intro w' hSw; go_simp; try with_reducible rfl); simp only [Act.put, List.setIfInBounds_toArray, List.set_cons_zero, List.set_cons_succ])
      refine ai_agg 6 104 (.tmp 43) (iv T) rfl open_wide hND (by kernel_rfl) (by kernel_rfl) (by kernel_rfl) (by rfl) hPan rfl rfl hTT.out (fun w' hw' => (hparts w' (K4.then hw')).2.2.2) hS ?_
      (simp only [Act.put, List.setIfInBounds_toArray, List.set_cons_zero, List.set_cons_succ])
      (refine ai_val (v := ?_) 7 rfl open_wide hND (by kernel_rfl) (by kernel_rfl) (by kernel_rfl) (by rfl) hPan ?_ hS ?_; rotate_left; (intro w' hSw; go_simp; try with_reducible rfl); simp only [Act.put, List.setIfInBounds_toArray, List.set_cons_zero, List.set_cons_succ])
      refine ai_one 4 (by kernel_rfl) (oi_call (f := 46) 4 rfl open_wide hND (by rfl) rfl (by simp only [List.map_toArray, List.map_cons, List.map_nil]; rfl) Tryd.func46 (by kernel_rfl) (by kernel_rfl) (HBo _).out ?_)
      rintro e w5 ⟨rfl, k5⟩
      have hS5 := hS.then k5
      refine ⟨_, rfl, hS5, ?_⟩
      clear hS
      (simp only [Act.put, List.setIfInBounds_toArray, List.set_cons_zero, List.set_cons_succ])
      refine ai_one 8 (by kernel_rfl) (oi_call (f := 58) 8 rfl open_wide hND (by rfl) rfl (by simp only [List.map_toArray, List.map_cons, List.map_nil]; rfl) Tryd.func58 (by kernel_rfl) (by kernel_rfl) (HBl _ (K4.then hS5)).out ?_)
      rintro e w6 ⟨rfl, k6⟩
      have hS := hS5.then k6
      refine ⟨_, rfl, hS, ?_⟩
      clear hS5 k5 k6
      (simp only [Act.put, List.setIfInBounds_toArray, List.set_cons_zero, List.set_cons_succ])
      (refine ai_val (v := ?_) 9 rfl open_wide hND (by kernel_rfl) (by kernel_rfl) (by kernel_rfl) (by rfl) hPan ?_ hS ?_; rotate_left; (intro w' hSw; go_simp; try with_reducible rfl); simp only [Act.put, List.setIfInBounds_toArray, List.set_cons_zero, List.set_cons_succ])
      refine ai_end (by kernel_rfl) ?_ _
      have K6 : Keep [] Wd w6 := K4.then hS
      have d6 := d4.keep0 hS
      have f1 : ∀ w', Keep [] w6 w' → w'.cell? ⟨Wd.heap.size, 2, none⟩ = some (.int .i64 tco) ∧ w'.cell? ⟨Wd.heap.size, 1, none⟩ = some (.int .i64 tde) ∧ w'.cell? ⟨w2.heap.size, 0, none⟩ = some (.slice A (aheadW x.tasks c L (k : Int)).length cp) := fun w' hw' =>
        ⟨by rw [(d6.keep0 hw').cell]; simpa using g2, by rw [(d6.keep0 hw').cell]; simpa using g1, by rw [((hv.keep0 K6).keep0 hw').cell]; rfl⟩
      have hro6 := own_keep0 hrow K6
      clear hS hPan hND
      gi_wp2
      refine ai_start (Keep [] w6) rfl rfl (Keep.refl _ _).drew (fun hND hS hPan => ?_)
      (refine ai_val (v := ?_) 0 rfl open_wide hND (by kernel_rfl) (by kernel_rfl) (by kernel_rfl) (by rfl) hPan ?_ hS ?_; rotate_left; (intro w' hSw; obtain ⟨e1,e2,e3⟩ := f1 w' hSw; go_simp; try with_reducible rfl); simp only [Act.put, List.setIfInBounds_toArray, List.set_cons_zero, List.set_cons_succ])
      (refine ai_val (v := ?_) 1 rfl open_wide hND (by kernel_rfl) (by kernel_rfl) (by kernel_rfl) (by rfl) hPan ?_ hS ?_; rotate_left; (intro w' hSw; obtain ⟨e1,e2,e3⟩ := f1 w' hSw; go_simp; try with_reducible rfl); simp only [Act.put, List.setIfInBounds_toArray, List.set_cons_zero, List.set_cons_succ])
      (refine ai_val (v := ?_) 2 rfl open_wide hND (by kernel_rfl) (by kernel_rfl) (by kernel_rfl) (by rfl) hPan ?_ hS ?_; rotate_left; (intro w' hSw; obtain ⟨e1,e2,e3⟩ := f1 w' hSw; go_simp; try with_reducible rfl); simp only [Act.put, List.setIfInBounds_toArray, List.set_cons_zero, List.set_cons_succ])
      have hwr : IntKind.i64.wrap (tco + bm) = tco + bm := IntWalk.i64_in _ (by omega)
      (refine ai_val (v := ?_) 3 rfl open_wide hND (by kernel_rfl) (by kernel_rfl) (by kernel_rfl) (by rfl) hPan ?_ hS ?_; rotate_left; (intro w' hSw; obtain ⟨e1,e2,e3⟩ := f1 w' hSw; go_simp; try with_reducible rfl); simp only [Act.put, List.setIfInBounds_toArray, List.set_cons_zero, List.set_cons_succ])
      clear hwr
      (refine ai_val (v := ?_) 4 rfl open_wide hND (by kernel_rfl) (by kernel_rfl) (by kernel_rfl) (by rfl) hPan ?_ hS ?_; rotate_left; (intro w' hSw; obtain ⟨e1,e2,e3⟩ := f1 w' hSw; go_simp; try with_reducible rfl); simp only [Act.put, List.setIfInBounds_toArray, List.set_cons_zero, List.set_cons_succ])
      (refine ai_val (v := ?_) 5 rfl open_wide hND (by kernel_rfl) (by kernel_rfl) (by kernel_rfl) (by rfl) hPan ?_ hS ?_; rotate_left; (intro w' hSw; obtain ⟨e1,e2,e3⟩ := f1 w' hSw; go_simp; try with_reducible rfl); simp only [Act.put, List.setIfInBounds_toArray, List.set_cons_zero, List.set_cons_succ])
      refine ai_agg 6 120 (.tmp 2) sc rfl open_wide hND (by kernel_rfl) (by kernel_rfl) (by kernel_rfl) (by rfl) hPan rfl rfl (by rw [HSL.out]; exact agg_shift) (fun w' hw' => (hparts w' (K6.then hw')).1) hS ?_
      (simp only [Act.put, List.setIfInBounds_toArray, List.set_cons_zero, List.set_cons_succ])
      (refine ai_val (v := ?_) 7 rfl open_wide hND (by kernel_rfl) (by kernel_rfl) (by kernel_rfl) (by rfl) hPan ?_ hS ?_; rotate_left; (intro w' hSw; obtain ⟨e1,e2,e3⟩ := f1 w' hSw; go_simp; try with_reducible rfl); simp only [Act.put, List.setIfInBounds_toArray, List.set_cons_zero, List.set_cons_succ])
      (refine ai_val (v := ?_) 10 rfl open_wide hND (by kernel_rfl) (by kernel_rfl) (by kernel_rfl) (by rfl) hPan ?_ hS ?_; rotate_left; (intro w' hSw; obtain ⟨e1,e2,e3⟩ := f1 w' hSw; go_simp; try with_reducible rfl); simp only [Act.put, List.setIfInBounds_toArray, List.set_cons_zero, List.set_cons_succ])
      refine ai_one 8 (by kernel_rfl) (oi_call (f := 64) 8 rfl open_wide hND (by rfl) rfl (by simp only [List.map_toArray, List.map_cons, List.map_nil]; rfl) Tryd.func64 (by kernel_rfl) (by kernel_rfl) (HOf _).out ?_)
      rintro e w7 ⟨rfl, k7⟩
      have hS7 := hS.then k7
      refine ⟨_, rfl, hS7, ?_⟩
      clear hS
      have hS := hS7
      (simp only [Act.put, List.setIfInBounds_toArray, List.set_cons_zero, List.set_cons_succ])
      have hwr : IntKind.i64.wrap (tde + oo) = tde + oo := IntWalk.i64_in _ (by omega)
      (refine ai_val (v := ?_) 9 rfl open_wide hND (by kernel_rfl) (by kernel_rfl) (by kernel_rfl) (by rfl) hPan ?_ hS ?_; rotate_left; (intro w' hSw; obtain ⟨e1,e2,e3⟩ := f1 w' hSw; go_simp; try with_reducible rfl); simp only [Act.put, List.setIfInBounds_toArray, List.set_cons_zero, List.set_cons_succ])
      clear hwr
      have HL7 := HFL A cp w7 (Reads.of_own (own_keep0 hro6 hS7))
      refine ai_one 11 (by kernel_rfl) (oi_call (f := 59) 11 rfl open_wide hND (by rfl) rfl (by simp only [List.map_toArray, List.map_cons, List.map_nil]; rfl) Tryd.func59 (by kernel_rfl) (by kernel_rfl) HL7.out ?_)
      rintro e w8 ⟨rfl, k8⟩
      have hS8 := hS.then k8
      refine ⟨_, rfl, hS8, ?_⟩
      clear hS
      have hS := hS8
      rw [← HWN.out, numRes_eq]
      (simp only [Act.put, List.setIfInBounds_toArray, List.set_cons_zero, List.set_cons_succ])
      (refine ai_val (v := ?_) 12 rfl open_wide hND (by kernel_rfl) (by kernel_rfl) (by kernel_rfl) (by rfl) hPan ?_ hS ?_; rotate_left; (intro w' hSw; go_simp; try with_reducible rfl); simp only [Act.put, List.setIfInBounds_toArray, List.set_cons_zero, List.set_cons_succ])
      (refine ai_val (v := ?_) 13 rfl open_wide hND (by kernel_rfl) (by kernel_rfl) (by kernel_rfl) (by rfl) hPan ?_ hS ?_; rotate_left; (intro w' hSw; go_simp; try with_reducible rfl); simp only [Act.put, List.setIfInBounds_toArray, List.set_cons_zero, List.set_cons_succ])
      (refine ai_val (v := ?_) 14 rfl open_wide hND (by kernel_rfl) (by kernel_rfl) (by kernel_rfl) (by rfl) hPan ?_ hS ?_; rotate_left; (intro w' hSw; go_simp; try with_reducible rfl); simp only [Act.put, List.setIfInBounds_toArray, List.set_cons_zero, List.set_cons_succ])
      (refine ai_val (v := ?_) 15 rfl open_wide hND (by kernel_rfl) (by kernel_rfl) (by kernel_rfl) (by rfl) hPan ?_ hS ?_; rotate_left; (intro w' hSw; go_simp; try with_reducible rfl); simp only [Act.put, List.setIfInBounds_toArray, List.set_cons_zero, List.set_cons_succ])
      refine ai_end (by kernel_rfl) ?_ _
      have K8 : Keep [] Wd w8 := K6.then hS
      have hD3 := (K8.block D (Array.getElem?_eq_some_iff.1 hD2).1 (by simp)).trans hD2
      gi_wp2
      refine ⟨by simp, .inl ⟨_, _, rfl, run_takeDeferred hD3, ?_⟩⟩
      refine ⟨_, by simp [results, Tryd.results72, go_sem]; rfl, rfl, (Kd.then K8).trans (keep_putObj w8 D _) (fun y hy hlt => by simp at hy; omega)⟩
end Go.Proofs.YteflgdnekflbbaaDoor

namespace Go.Proofs.YteflgdnekflbbaaDoor
open Go.RowKit

section
variable {P : Program} {md : Region.Mode} {ops : Array Oper} {Q : Exit → Act → World → Prop} {p : Nat} {S : World → Prop} {fuel : Nat} {listed : Array Bool} {a : Act} {w : World}
/-- Two operations that may come up next. -/
theorem ap_two (i j : Nat) (hr : Region.ready md ops listed = [i, j]) (h1 : wpOp P ops Q i (fun a' w' => ((listed.setIfInBounds i true).getD p true = false → S w') ∧ wpAnyP P md ops Q p S fuel (listed.setIfInBounds i true) a' w') a w)
    (h2 : wpOp P ops Q j (fun a' w' => ((listed.setIfInBounds j true).getD p true = false → S w') ∧ wpAnyP P md ops Q p S fuel (listed.setIfInBounds j true) a' w') a w) :
    wpAnyP P md ops Q p S (fuel + 1) listed a w :=
  ⟨fun h0 => (by rw [hr] at h0; cases h0), fun q hq => by
    rw [hr] at hq
    simp at hq
    rcases hq with rfl | rfl
    · exact h1
    · exact h2⟩
end
end Go.Proofs.YteflgdnekflbbaaDoor

namespace Go.Proofs.YteflgdnekflbbaaDoor
open Go.RowKit

set_option maxRecDepth 100000 in
set_option maxHeartbeats 2000000 in
theorem beh_any (v : ImgV) (x : Img) (c : Cls) (T L : List Int) (task : Int) (w : World) (hTb : Tab w) (h : ImgAt w v x) (hc : c.Ok) (hT : T.length = 8) (_hL : L.length = 16) (hx : Small x) (hw : InW x.tasks.length c.to) :
    Calls Tryd.prog 74 #[.agg (shCells v x c T L).toArray, .int .i64 task] w fun e w' => e = .returned (numRes (behM x c T task)) ∧ Keep [] w w' := by
  obtain ⟨W1, hW1⟩ : ∃ W1, w.alloc (.cells (shCells v x c T L).toArray 120) = W1 := ⟨_, rfl⟩
  have b1 : Blk W1 w.heap.size 120 (shCells v x c T L).toArray := by rw [← hW1]; exact Blk.new _ _ _
  have K1 : Keep [] w W1 := by rw [← hW1]; exact (Keep.refl _ w).alloc _
  have HTo := fun w => Lib.hid (cto_any c w hc)
  have HHa := fun w => Lib.hid (has_any c.to task w hc.to)
  have HE := has_bitN c.to task
  have hparts : ∀ w', Keep [] W1 w' → CellsAt w' w.heap.size 0 (shCells v x c T L) ∧ CellsAt w' w.heap.size 0 (imgCells v x) ∧ CellsAt w' w.heap.size 4 (clsCells c) ∧ CellsAt w' w.heap.size 7 (iv T) := fun w' hk' => sh_parts (b1.keep0 hk') hT
  have HQC := Lib.hid (hparts W1 (Keep.refl _ _)).2.2.1
  cases hh : has10 c.to task with
  | false =>
    rw [hh] at HE
    rw [HE] at HHa
    have HR : Hid (numRes (behM x c T task) = .tuple #[.int .i64 0, .bool false]) := by show _ = _; unfold behM; rw [hh]; rfl
    have HW := Lib.hid hW1
    clear hW1 HE b1 h hTb hx hw hparts
    generalize (shCells v x c T L).toArray = sc at *
    go_enter Tryd.func74, Tryd.ntmps74
    go_wp2_with (first
      | rw [HW.out]
      | (refine wpList_load_agg rfl 114 (.tmp 8) rfl rfl (cs := clsCells c) agg_cls HQC.out ?_)
      | (refine (HTo _).out.mono ?_; rintro e w2 ⟨rfl, k2⟩)
      | (refine (HHa _).out.mono ?_; rintro e w3 ⟨rfl, rfl⟩))
    go_ret2
    exact ⟨by rw [HR.out]; rfl, K1.then k2⟩
  | true =>
    rw [hh] at HE
    rw [HE] at HHa
    have hr : 0 ≤ task ∧ task < 32 := by unfold has10 at hh; simp at hh; omega
    obtain ⟨k, rfl⟩ : ∃ k : Nat, task = (k : Int) := ⟨task.toNat, by omega⟩
    have hk : k < x.tasks.length := by
      rcases Nat.lt_or_ge k x.tasks.length with h1 | h1
      · exact h1
      · have := hw k h1
        rw [has10_nat (by omega)] at hh
        rw [hh] at this; cases this
    have hIC : Hid ((imgCells v x).length = 4) := show _ = _ from rfl
    have hTT : Hid (AggOf Tryd.prog 104 (iv T).length) := by show AggOf _ _ _; rw [iv_len, hT]; exact agg_tab
    have HBo := fun w => Lib.hid (both_any c w hc)
    have HR : Hid (numRes (behM x c T (k : Int)) = .tuple #[.int .i64 ((respAt x c.to c.both T k x.tasks[k]).getD 0), .bool (respAt x c.to c.both T k x.tasks[k]).isSome]) := by
      show _ = _
      unfold behM
      rw [hh, if_pos rfl, Int.toNat_natCast, List.getElem?_eq_getElem hk]; rfl
    have HRR : respRes (respM x c.to c.both T k) = .tuple #[.agg #[.int .i64 (k : Int), .int .i64 (blockM x.tasks c.both T k), .int .i64 ((respAt x c.to c.both T k x.tasks[k]).getD 0)], .bool (respAt x c.to c.both T k x.tasks[k]).isSome] := by
      unfold respM
      rw [if_neg (by omega), Int.toNat_natCast, List.getElem?_eq_getElem hk]; rfl
    have HRe0 := fun w' hk' => resp_any v x c.to c.both T k w' (hTb.keep0 (K1.then hk')) (h.keep0 (K1.then hk')) hc.to hc.both hT hx
    rw [HRR] at HRe0
    have HRe1 := fun w' (hk' : Keep [] W1 w') => Lib.hid (HRe0 w' hk')
    have HW := Lib.hid hW1
    clear hW1 HE b1 h hTb hx hw HRe0 HRR
    generalize respAt x c.to c.both T k x.tasks[k] = rs at *
    generalize blockM x.tasks c.both T k = bm at *
    generalize hsc : (shCells v x c T L) = sc at *
    go_enter Tryd.func74, Tryd.ntmps74
    go_wp2_with (first
      | rw [HW.out]
      | (refine wpList_load_agg rfl 114 (.tmp 8) rfl rfl (cs := clsCells c) agg_cls HQC.out ?_)
      | (refine (HTo _).out.mono ?_; rintro e w2 ⟨rfl, k2⟩)
      | (refine (HHa _).out.mono ?_; rintro e w1 ⟨rfl, rfl⟩))
    replace K1 := K1.then k2
    have HRe := fun w' (hk' : Keep [] w2 w') => HRe1 w' (k2.then hk')
    replace hparts := fun w' (hk' : Keep [] w2 w') => hparts w' (k2.then hk')
    clear HRe1 k2 HHa
    generalize w2 = w1 at *
    refine ap_begin 17 (Keep [] w1) rfl (Keep.refl _ _).drew (fun hS hPan => ?_) (fun _ _ d _ _ h => by cases d <;> exact h)
    generalize w1.drew = wd at *
    (refine ap_val (v := ?_) 0 rfl (by kernel_rfl) (by kernel_rfl) (by kernel_rfl) (by kernel_rfl) (by rfl) hPan ?_ hS ?_; rotate_left; (intro w' hSw; go_simp; try with_reducible rfl); simp only [Act.put, List.setIfInBounds_toArray, List.set_cons_zero, List.set_cons_succ])
    refine ap_agg 1 26 (.tmp 15) (imgCells v x) rfl (by kernel_rfl) (by kernel_rfl) (by kernel_rfl) (by kernel_rfl) (by rfl) hPan rfl rfl (by rw [hIC.out]; exact agg_image) (fun w' hw' => (hparts w' hw').2.1) hS ?_
    (simp only [Act.put, List.setIfInBounds_toArray, List.set_cons_zero, List.set_cons_succ])
    (refine ap_val (v := ?_) 2 rfl (by kernel_rfl) (by kernel_rfl) (by kernel_rfl) (by kernel_rfl) (by rfl) hPan ?_ hS ?_; rotate_left; (intro w' hSw; go_simp; try with_reducible rfl); simp only [Act.put, List.setIfInBounds_toArray, List.set_cons_zero, List.set_cons_succ])
    refine ap_agg 3 114 (.tmp 17) (clsCells c) rfl (by kernel_rfl) (by kernel_rfl) (by kernel_rfl) (by kernel_rfl) (by rfl) hPan rfl rfl agg_cls (fun w' hw' => (hparts w' hw').2.2.1) hS ?_
    (simp only [Act.put, List.setIfInBounds_toArray, List.set_cons_zero, List.set_cons_succ])
    (refine ap_val (v := ?_) 5 rfl (by kernel_rfl) (by kernel_rfl) (by kernel_rfl) (by kernel_rfl) (by rfl) hPan ?_ hS ?_; rotate_left; (intro w' hSw; go_simp; try with_reducible rfl); simp only [Act.put, List.setIfInBounds_toArray, List.set_cons_zero, List.set_cons_succ])
    refine ap_agg 6 114 (.tmp 20) (clsCells c) rfl (by kernel_rfl) (by kernel_rfl) (by kernel_rfl) (by kernel_rfl) (by rfl) hPan rfl rfl agg_cls (fun w' hw' => (hparts w' hw').2.2.1) hS ?_
    (simp only [Act.put, List.setIfInBounds_toArray, List.set_cons_zero, List.set_cons_succ])
    (refine ap_val (v := ?_) 8 rfl (by kernel_rfl) (by kernel_rfl) (by kernel_rfl) (by kernel_rfl) (by rfl) hPan ?_ hS ?_; rotate_left; (intro w' hSw; go_simp; try with_reducible rfl); simp only [Act.put, List.setIfInBounds_toArray, List.set_cons_zero, List.set_cons_succ])
    refine ap_agg 9 104 (.tmp 23) (iv T) rfl (by kernel_rfl) (by kernel_rfl) (by kernel_rfl) (by kernel_rfl) (by rfl) hPan rfl rfl hTT.out (fun w' hw' => (hparts w' hw').2.2.2) hS ?_
    (simp only [Act.put, List.setIfInBounds_toArray, List.set_cons_zero, List.set_cons_succ])
    (refine ap_val (v := ?_) 10 rfl (by kernel_rfl) (by kernel_rfl) (by kernel_rfl) (by kernel_rfl) (by rfl) hPan ?_ hS ?_; rotate_left; (intro w' hSw; go_simp; try with_reducible rfl); simp only [Act.put, List.setIfInBounds_toArray, List.set_cons_zero, List.set_cons_succ])
    refine ap_two 4 15 (by kernel_rfl) ?_ ?_
    · skip
      refine op_call (f := 73) 4 rfl (by rfl) rfl (by simp only [List.map_toArray, List.map_cons, List.map_nil]; rfl) Tryd.func73 (by kernel_rfl) (by kernel_rfl) (HTo _).out ?_
      rintro e w5 ⟨rfl, kq⟩
      replace hS := hS.then kq
      (try replace dg := dg.keep0 kq)
      refine ⟨_, rfl, fun _ => hS, ?_⟩
      clear kq
      (simp only [Act.put, List.setIfInBounds_toArray, List.set_cons_zero, List.set_cons_succ])
      refine ap_two 7 15 (by kernel_rfl) ?_ ?_
      · skip
        refine op_call (f := 46) 7 rfl (by rfl) rfl (by simp only [List.map_toArray, List.map_cons, List.map_nil]; rfl) Tryd.func46 (by kernel_rfl) (by kernel_rfl) (HBo _).out ?_
        rintro e w7 ⟨rfl, kq⟩
        replace hS := hS.then kq
        (try replace dg := dg.keep0 kq)
        refine ⟨_, rfl, fun _ => hS, ?_⟩
        clear kq
        (simp only [Act.put, List.setIfInBounds_toArray, List.set_cons_zero, List.set_cons_succ])
        refine ap_two 11 15 (by kernel_rfl) ?_ ?_
        · skip
          refine op_call (f := 41) 11 rfl (by rfl) rfl (by simp only [List.map_toArray, List.map_cons, List.map_nil]; rfl) Tryd.func41 (by kernel_rfl) (by kernel_rfl) (HRe _ hS).out ?_
          rintro e w11 ⟨rfl, kq⟩
          replace hS := hS.then kq
          (try replace dg := dg.keep0 kq)
          refine ⟨_, rfl, fun _ => hS, ?_⟩
          clear kq
          (simp only [Act.put, List.setIfInBounds_toArray, List.set_cons_zero, List.set_cons_succ])
          (refine ap_val (v := ?_) 12 rfl (by kernel_rfl) (by kernel_rfl) (by kernel_rfl) (by kernel_rfl) (by rfl) hPan ?_ hS ?_; rotate_left; (intro w' hSw; go_simp; try with_reducible rfl); simp only [Act.put, List.setIfInBounds_toArray, List.set_cons_zero, List.set_cons_succ])
          (refine ap_val (v := ?_) 13 rfl (by kernel_rfl) (by kernel_rfl) (by kernel_rfl) (by kernel_rfl) (by rfl) hPan ?_ hS ?_; rotate_left; (intro w' hSw; go_simp; try with_reducible rfl); simp only [Act.put, List.setIfInBounds_toArray, List.set_cons_zero, List.set_cons_succ])
          (refine ap_val (v := ?_) 14 rfl (by kernel_rfl) (by kernel_rfl) (by kernel_rfl) (by kernel_rfl) (by rfl) hPan ?_ hS ?_; rotate_left; (intro w' hSw; go_simp; try with_reducible rfl); simp only [Act.put, List.setIfInBounds_toArray, List.set_cons_zero, List.set_cons_succ])
          refine ap_one 15 (by kernel_rfl) ?_
          refine op_run (v := .pointer (some ⟨w11.heap.size, 0, none⟩)) (w' := w11.alloc (.cells #[.int .i64 0, .int .i64 0, .int .i64 0] 110)) 15 rfl (by rfl) (by go_simp) ?_
          have dg := Blk.new w11 110 #[.int .i64 0, .int .i64 0, .int .i64 0]
          have hgz : w1.heap.size ≤ w11.heap.size := hS.size
          replace hS := hS.alloc (.cells #[.int .i64 0, .int .i64 0, .int .i64 0] 110)
          refine ⟨fun _ => hS, ?_⟩
          generalize w11.alloc (.cells #[.int .i64 0, .int .i64 0, .int .i64 0] 110) = wa at *
          generalize w11.heap.size = gq at *
          (simp only [Act.put, List.setIfInBounds_toArray, List.set_cons_zero, List.set_cons_succ])
          refine ap_one 16 (by kernel_rfl) ?_
          refine op_store_all (vs := [.int .i64 (k : Int), .int .i64 bm, .int .i64 (rs.getD 0)]) 16 rfl (by rfl) rfl rfl rfl (by kernel_rfl) dg (by simp [Value.oneCell']) rfl ?_
          intro w16 d16 k16
          have K16 : Keep [] w1 w16 := hS.trans k16 (fun y hy hlt => by simp at hy; omega)
          refine ⟨fun _ => K16, ?_⟩
          (simp only [Act.put])
          refine ap_one 17 (by kernel_rfl) ?_
          refine op_run (v := .bool rs.isSome) (w' := w16) 17 rfl (by rfl) (by go_simp) ?_
          refine ⟨fun h => (by cases h), ap_done (by kernel_rfl) ?_ _⟩
          (simp only [Act.put, List.setIfInBounds_toArray, List.set_cons_zero, List.set_cons_succ])
          have c16 := d16.cell 2
          simp at c16
          clear hPan hS
          go_wp2
          go_ret2
          exact ⟨by rw [HR.out]; rfl, K1.then K16⟩
        · skip
          refine op_run (v := .pointer (some ⟨w7.heap.size, 0, none⟩)) (w' := w7.alloc (.cells #[.int .i64 0, .int .i64 0, .int .i64 0] 110)) 15 rfl (by rfl) (by go_simp) ?_
          have dg := Blk.new w7 110 #[.int .i64 0, .int .i64 0, .int .i64 0]
          have hgz : w1.heap.size ≤ w7.heap.size := hS.size
          replace hS := hS.alloc (.cells #[.int .i64 0, .int .i64 0, .int .i64 0] 110)
          refine ⟨fun _ => hS, ?_⟩
          generalize w7.alloc (.cells #[.int .i64 0, .int .i64 0, .int .i64 0] 110) = wa at *
          generalize w7.heap.size = gq at *
          (simp only [Act.put, List.setIfInBounds_toArray, List.set_cons_zero, List.set_cons_succ])
          refine ap_one 11 (by kernel_rfl) ?_
          refine op_call (f := 41) 11 rfl (by rfl) rfl (by simp only [List.map_toArray, List.map_cons, List.map_nil]; rfl) Tryd.func41 (by kernel_rfl) (by kernel_rfl) (HRe _ hS).out ?_
          rintro e w11 ⟨rfl, kq⟩
          replace hS := hS.then kq
          (try replace dg := dg.keep0 kq)
          refine ⟨_, rfl, fun _ => hS, ?_⟩
          clear kq
          (simp only [Act.put, List.setIfInBounds_toArray, List.set_cons_zero, List.set_cons_succ])
          (refine ap_val (v := ?_) 12 rfl (by kernel_rfl) (by kernel_rfl) (by kernel_rfl) (by kernel_rfl) (by rfl) hPan ?_ hS ?_; rotate_left; (intro w' hSw; go_simp; try with_reducible rfl); simp only [Act.put, List.setIfInBounds_toArray, List.set_cons_zero, List.set_cons_succ])
          (refine ap_val (v := ?_) 13 rfl (by kernel_rfl) (by kernel_rfl) (by kernel_rfl) (by kernel_rfl) (by rfl) hPan ?_ hS ?_; rotate_left; (intro w' hSw; go_simp; try with_reducible rfl); simp only [Act.put, List.setIfInBounds_toArray, List.set_cons_zero, List.set_cons_succ])
          (refine ap_val (v := ?_) 14 rfl (by kernel_rfl) (by kernel_rfl) (by kernel_rfl) (by kernel_rfl) (by rfl) hPan ?_ hS ?_; rotate_left; (intro w' hSw; go_simp; try with_reducible rfl); simp only [Act.put, List.setIfInBounds_toArray, List.set_cons_zero, List.set_cons_succ])
          refine ap_one 16 (by kernel_rfl) ?_
          refine op_store_all (vs := [.int .i64 (k : Int), .int .i64 bm, .int .i64 (rs.getD 0)]) 16 rfl (by rfl) rfl rfl rfl (by kernel_rfl) dg (by simp [Value.oneCell']) rfl ?_
          intro w16 d16 k16
          have K16 : Keep [] w1 w16 := hS.trans k16 (fun y hy hlt => by simp at hy; omega)
          refine ⟨fun _ => K16, ?_⟩
          (simp only [Act.put])
          refine ap_one 17 (by kernel_rfl) ?_
          refine op_run (v := .bool rs.isSome) (w' := w16) 17 rfl (by rfl) (by go_simp) ?_
          refine ⟨fun h => (by cases h), ap_done (by kernel_rfl) ?_ _⟩
          (simp only [Act.put, List.setIfInBounds_toArray, List.set_cons_zero, List.set_cons_succ])
          have c16 := d16.cell 2
          simp at c16
          clear hPan hS
          go_wp2
          go_ret2
          exact ⟨by rw [HR.out]; rfl, K1.then K16⟩
      · skip
        refine op_run (v := .pointer (some ⟨w5.heap.size, 0, none⟩)) (w' := w5.alloc (.cells #[.int .i64 0, .int .i64 0, .int .i64 0] 110)) 15 rfl (by rfl) (by go_simp) ?_
        have dg := Blk.new w5 110 #[.int .i64 0, .int .i64 0, .int .i64 0]
        have hgz : w1.heap.size ≤ w5.heap.size := hS.size
        replace hS := hS.alloc (.cells #[.int .i64 0, .int .i64 0, .int .i64 0] 110)
        refine ⟨fun _ => hS, ?_⟩
        generalize w5.alloc (.cells #[.int .i64 0, .int .i64 0, .int .i64 0] 110) = wa at *
        generalize w5.heap.size = gq at *
        (simp only [Act.put, List.setIfInBounds_toArray, List.set_cons_zero, List.set_cons_succ])
        refine ap_one 7 (by kernel_rfl) ?_
        refine op_call (f := 46) 7 rfl (by rfl) rfl (by simp only [List.map_toArray, List.map_cons, List.map_nil]; rfl) Tryd.func46 (by kernel_rfl) (by kernel_rfl) (HBo _).out ?_
        rintro e w7 ⟨rfl, kq⟩
        replace hS := hS.then kq
        (try replace dg := dg.keep0 kq)
        refine ⟨_, rfl, fun _ => hS, ?_⟩
        clear kq
        (simp only [Act.put, List.setIfInBounds_toArray, List.set_cons_zero, List.set_cons_succ])
        refine ap_one 11 (by kernel_rfl) ?_
        refine op_call (f := 41) 11 rfl (by rfl) rfl (by simp only [List.map_toArray, List.map_cons, List.map_nil]; rfl) Tryd.func41 (by kernel_rfl) (by kernel_rfl) (HRe _ hS).out ?_
        rintro e w11 ⟨rfl, kq⟩
        replace hS := hS.then kq
        (try replace dg := dg.keep0 kq)
        refine ⟨_, rfl, fun _ => hS, ?_⟩
        clear kq
        (simp only [Act.put, List.setIfInBounds_toArray, List.set_cons_zero, List.set_cons_succ])
        (refine ap_val (v := ?_) 12 rfl (by kernel_rfl) (by kernel_rfl) (by kernel_rfl) (by kernel_rfl) (by rfl) hPan ?_ hS ?_; rotate_left; (intro w' hSw; go_simp; try with_reducible rfl); simp only [Act.put, List.setIfInBounds_toArray, List.set_cons_zero, List.set_cons_succ])
        (refine ap_val (v := ?_) 13 rfl (by kernel_rfl) (by kernel_rfl) (by kernel_rfl) (by kernel_rfl) (by rfl) hPan ?_ hS ?_; rotate_left; (intro w' hSw; go_simp; try with_reducible rfl); simp only [Act.put, List.setIfInBounds_toArray, List.set_cons_zero, List.set_cons_succ])
        (refine ap_val (v := ?_) 14 rfl (by kernel_rfl) (by kernel_rfl) (by kernel_rfl) (by kernel_rfl) (by rfl) hPan ?_ hS ?_; rotate_left; (intro w' hSw; go_simp; try with_reducible rfl); simp only [Act.put, List.setIfInBounds_toArray, List.set_cons_zero, List.set_cons_succ])
        refine ap_one 16 (by kernel_rfl) ?_
        refine op_store_all (vs := [.int .i64 (k : Int), .int .i64 bm, .int .i64 (rs.getD 0)]) 16 rfl (by rfl) rfl rfl rfl (by kernel_rfl) dg (by simp [Value.oneCell']) rfl ?_
        intro w16 d16 k16
        have K16 : Keep [] w1 w16 := hS.trans k16 (fun y hy hlt => by simp at hy; omega)
        refine ⟨fun _ => K16, ?_⟩
        (simp only [Act.put])
        refine ap_one 17 (by kernel_rfl) ?_
        refine op_run (v := .bool rs.isSome) (w' := w16) 17 rfl (by rfl) (by go_simp) ?_
        refine ⟨fun h => (by cases h), ap_done (by kernel_rfl) ?_ _⟩
        (simp only [Act.put, List.setIfInBounds_toArray, List.set_cons_zero, List.set_cons_succ])
        have c16 := d16.cell 2
        simp at c16
        clear hPan hS
        go_wp2
        go_ret2
        exact ⟨by rw [HR.out]; rfl, K1.then K16⟩
    · skip
      refine op_run (v := .pointer (some ⟨wd.heap.size, 0, none⟩)) (w' := wd.alloc (.cells #[.int .i64 0, .int .i64 0, .int .i64 0] 110)) 15 rfl (by rfl) (by go_simp) ?_
      have dg := Blk.new wd 110 #[.int .i64 0, .int .i64 0, .int .i64 0]
      have hgz : w1.heap.size ≤ wd.heap.size := hS.size
      replace hS := hS.alloc (.cells #[.int .i64 0, .int .i64 0, .int .i64 0] 110)
      refine ⟨fun _ => hS, ?_⟩
      generalize wd.alloc (.cells #[.int .i64 0, .int .i64 0, .int .i64 0] 110) = wa at *
      generalize wd.heap.size = gq at *
      (simp only [Act.put, List.setIfInBounds_toArray, List.set_cons_zero, List.set_cons_succ])
      refine ap_one 4 (by kernel_rfl) ?_
      refine op_call (f := 73) 4 rfl (by rfl) rfl (by simp only [List.map_toArray, List.map_cons, List.map_nil]; rfl) Tryd.func73 (by kernel_rfl) (by kernel_rfl) (HTo _).out ?_
      rintro e w5 ⟨rfl, kq⟩
      replace hS := hS.then kq
      (try replace dg := dg.keep0 kq)
      refine ⟨_, rfl, fun _ => hS, ?_⟩
      clear kq
      (simp only [Act.put, List.setIfInBounds_toArray, List.set_cons_zero, List.set_cons_succ])
      refine ap_one 7 (by kernel_rfl) ?_
      refine op_call (f := 46) 7 rfl (by rfl) rfl (by simp only [List.map_toArray, List.map_cons, List.map_nil]; rfl) Tryd.func46 (by kernel_rfl) (by kernel_rfl) (HBo _).out ?_
      rintro e w7 ⟨rfl, kq⟩
      replace hS := hS.then kq
      (try replace dg := dg.keep0 kq)
      refine ⟨_, rfl, fun _ => hS, ?_⟩
      clear kq
      (simp only [Act.put, List.setIfInBounds_toArray, List.set_cons_zero, List.set_cons_succ])
      refine ap_one 11 (by kernel_rfl) ?_
      refine op_call (f := 41) 11 rfl (by rfl) rfl (by simp only [List.map_toArray, List.map_cons, List.map_nil]; rfl) Tryd.func41 (by kernel_rfl) (by kernel_rfl) (HRe _ hS).out ?_
      rintro e w11 ⟨rfl, kq⟩
      replace hS := hS.then kq
      (try replace dg := dg.keep0 kq)
      refine ⟨_, rfl, fun _ => hS, ?_⟩
      clear kq
      (simp only [Act.put, List.setIfInBounds_toArray, List.set_cons_zero, List.set_cons_succ])
      (refine ap_val (v := ?_) 12 rfl (by kernel_rfl) (by kernel_rfl) (by kernel_rfl) (by kernel_rfl) (by rfl) hPan ?_ hS ?_; rotate_left; (intro w' hSw; go_simp; try with_reducible rfl); simp only [Act.put, List.setIfInBounds_toArray, List.set_cons_zero, List.set_cons_succ])
      (refine ap_val (v := ?_) 13 rfl (by kernel_rfl) (by kernel_rfl) (by kernel_rfl) (by kernel_rfl) (by rfl) hPan ?_ hS ?_; rotate_left; (intro w' hSw; go_simp; try with_reducible rfl); simp only [Act.put, List.setIfInBounds_toArray, List.set_cons_zero, List.set_cons_succ])
      (refine ap_val (v := ?_) 14 rfl (by kernel_rfl) (by kernel_rfl) (by kernel_rfl) (by kernel_rfl) (by rfl) hPan ?_ hS ?_; rotate_left; (intro w' hSw; go_simp; try with_reducible rfl); simp only [Act.put, List.setIfInBounds_toArray, List.set_cons_zero, List.set_cons_succ])
      refine ap_one 16 (by kernel_rfl) ?_
      refine op_store_all (vs := [.int .i64 (k : Int), .int .i64 bm, .int .i64 (rs.getD 0)]) 16 rfl (by rfl) rfl rfl rfl (by kernel_rfl) dg (by simp [Value.oneCell']) rfl ?_
      intro w16 d16 k16
      have K16 : Keep [] w1 w16 := hS.trans k16 (fun y hy hlt => by simp at hy; omega)
      refine ⟨fun _ => K16, ?_⟩
      (simp only [Act.put])
      refine ap_one 17 (by kernel_rfl) ?_
      refine op_run (v := .bool rs.isSome) (w' := w16) 17 rfl (by rfl) (by go_simp) ?_
      refine ⟨fun h => (by cases h), ap_done (by kernel_rfl) ?_ _⟩
      (simp only [Act.put, List.setIfInBounds_toArray, List.set_cons_zero, List.set_cons_succ])
      have c16 := d16.cell 2
      simp at c16
      clear hPan hS
      go_wp2
      go_ret2
      exact ⟨by rw [HR.out]; rfl, K1.then K16⟩
end Go.Proofs.YteflgdnekflbbaaDoor
