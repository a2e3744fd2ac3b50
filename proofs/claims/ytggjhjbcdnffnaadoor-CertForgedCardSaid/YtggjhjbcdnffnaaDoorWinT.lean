/- The work that goes ahead of a task along a change, as an iterator (window.Shift's terms). Condition: the table of math/bits lies where the program's text lays it. -/
import Derived.Test.YtggjhjbcdnffnaaDoorWinB
namespace Go.Proofs.YtggjhjbcdnffnaaDoor
open Go.RowKit
attribute [local go_sem] Oper.semAt_some

set_option maxRecDepth 100000 in
set_option maxHeartbeats 1000000 in
theorem demOfO_any (t : Tsk) (z : Int) (w : World) : Calls Tryd.prog 75 #[.agg (tskCells t).toArray, .int .i64 z] w fun e w' => e = .returned (.agg (trmCells ⟨t.per, t.cost, z, 0⟩).toArray) ∧ Keep [] w w' := by
  have hb0 := Blk.new w 81 (tskCells t).toArray
  have K0 := (Keep.refl [] w).alloc (.cells (tskCells t).toArray 81)
  obtain ⟨W0, hW0⟩ : ∃ W0, w.alloc (.cells (tskCells t).toArray 81) = W0 := ⟨_, rfl⟩
  have hs0 : Hid (W0.heap.size = w.heap.size + 1) := by show _ = _; rw [← hW0]; simp
  rw [hW0] at hb0 K0
  have HW := Lib.hid hW0
  have K1 := Lib.hid K0
  have hF : Hid (∀ W, Keep [] W0 W → W.cell? ⟨w.heap.size, 0, none⟩ = some (.int .i64 t.per) ∧ W.cell? ⟨w.heap.size, 2, none⟩ = some (.int .i64 t.cost)) := fun W hk =>
    ⟨by rw [(hb0.keep0 hk).cell]; rfl, by rw [(hb0.keep0 hk).cell]; rfl⟩
  obtain ⟨c1, c2⟩ := hF.out _ ((Keep.refl [] W0).alloc (.cells #[.int .i64 0, .int .i64 0, .int .i64 0, .int .i64 0] 92))
  clear hb0 K0 hW0
  generalize hp : t.per = tp at *
  generalize hc : t.cost = tc0 at *
  clear hp hc
  generalize tskCells t = tc at *
  go_enter Tryd.func75, Tryd.ntmps75
  go_wp2_with (first | rw [HW.out] | refine stop_store 92 (.tmp 4) (.tmp 10) rfl ?_)
  constructor
  refine wpList_store_all rfl 92 (.tmp 4) (.tmp 10) rfl rfl rfl (t := 92) (cs := #[.int .i64 0, .int .i64 0, .int .i64 0, .int .i64 0]) (vs := trmCells ⟨tp, tc0, z, 0⟩) agg_term.2 (Blk.new _ _ _) (by simp [trmCells, Value.oneCell']) rfl ?_
  intro w' d k'
  have K2 : Hid (Keep [] w w') := (K1.out.alloc _).trans k' (fun x hx hlt => by
    have := hs0.out
    simp at hx; omega)
  clear k'
  go_wp2
  refine bodyPost_ret (results_blk rfl _ rfl d agg_term) rfl ?_
  exact ⟨rfl, K2.out⟩

theorem cells_mid {w : World} {b : Nat} {A B C : List Value} {cs : List Value} (h : CellsAt w b 0 cs) (e : cs = A ++ (B ++ C)) {n : Nat} (hn : A.length = n) : CellsAt w b n B := fun j u hu => by
  subst e hn
  have := h (A.length + j) u (by rw [List.getElem?_append_right (by omega), List.getElem?_append_left (by have := (List.getElem?_eq_some_iff.1 hu).1; omega)]; simpa using hu)
  simpa using this
/-- The parts of a change in memory. -/
theorem sh_parts {w : World} {b : Nat} {v : ImgV} {x : Img} {c : Cls} {T L : List Int} (h : Blk w b 37 (shCells v x c T L).toArray) (_hT : T.length = 8) :
    CellsAt w b 0 (shCells v x c T L) ∧ CellsAt w b 0 (imgCells v x) ∧ CellsAt w b 4 (clsCells c) ∧ CellsAt w b 7 (iv T) := by
  have h0 := h.cellsAt
  refine ⟨h0, cells_mid (A := []) h0 rfl rfl, cells_mid (A := imgCells v x) h0 rfl rfl, cells_mid (A := imgCells v x ++ clsCells c) (C := iv L) h0 ?_ rfl⟩
  unfold shCells
  simp only [List.append_assoc]
/-- What the iterator holds: the change, the task, the loop's body; and all that lay at the start. -/
structure ST (w0 : World) (Bs Bt By l : Nat) (cs : List Value) (task : Int) (W : World) : Prop where
  sh : Blk W Bs 37 cs.toArray
  tk : Blk W Bt 3 #[.int .i64 task]
  yl : Blk W By 138 #[.func (.yield l) #[] #[]]
  low : Below w0.heap.size w0 W
abbrev UsT : List Nat := [87, 92]
theorem ST.kp {w0 : World} {Bs Bt By l B0 B2 : Nat} {cs : List Value} {task : Int} {W W' : World} (h : ST w0 Bs Bt By l cs task W) (k : KpU UsT B0 B2 W W') (hB : w0.heap.size ≤ B0) : ST w0 Bs Bt By l cs task W' :=
  ⟨k.blk h.sh (by decide), k.blk h.tk (by decide), k.blk h.yl (by decide), h.low.trans (k.below.mono hB)⟩
theorem ST.keep0 {w0 : World} {Bs Bt By l : Nat} {cs : List Value} {task : Int} {W W' : World} (h : ST w0 Bs Bt By l cs task W) (k : Keep [] W W') : ST w0 Bs Bt By l cs task W' :=
  ⟨h.sh.keep0 k, h.tk.keep0 k, h.yl.keep0 k, h.low.trans ⟨k.os, k.tape, k.output, k.size, fun x hx => k.block x (Nat.lt_of_lt_of_le hx h.low.size) (by simp)⟩⟩
def encT (t : Trm) : Array Value := #[.agg (trmCells t).toArray]
theorem wterms_any (v : ImgV) (x : Img) (c : Cls) (T L : List Int) (task : Int) (w : World) : Calls Tryd.prog 41 #[.agg (shCells v x c T L).toArray, .int .i64 task] w fun e w' =>
    e = .returned (.func (.func 73) #[] #[.pointer (some ⟨w.heap.size, 0, none⟩), .pointer (some ⟨w.heap.size + 1, 0, none⟩)]) ∧ (w.alloc (.cells (shCells v x c T L).toArray 37)).alloc (.cells #[.int .i64 task] 3) = w' := by
  generalize (shCells v x c T L).toArray = cs
  go_enter Tryd.func41, Tryd.ntmps41
  go_wp2
  go_ret
  exact ⟨rfl, rfl⟩

set_option maxRecDepth 100000 in
set_option maxHeartbeats 2000000 in
theorem wterms1_seq (n : Nat) (v : ImgV) (x : Img) (c : Cls) (T L : List Int) (task : Nat) (w0 w : World) (hx : ImgAt w0 v x) (hTb : Tab w0) (hw0 : Below w0.heap.size w0 w) (hc : c.Ok) (hT : T.length = 8) (hL : L.length = 16)
    (htk : task ≤ x.tasks.length) (hn : x.tasks.length ≤ 16) (Bs Bt : Nat) (hBs : Bs < w.heap.size) (hBt : Bt < w.heap.size)
    (hbs : Blk w Bs 37 (shCells v x c T L).toArray) (hbt : Blk w Bt 3 #[.int .i64 (task : Int)]) :
    SeqT Fence.wide n Tryd.prog LoN 73 #[.pointer (some ⟨Bs, 0, none⟩), .pointer (some ⟨Bt, 0, none⟩)] encT (KpU UsT w0.heap.size (w.heap.size + 2)) (aheadW x.tasks c L (task : Int)) w := by
  intro l J Jx W hW hge hJ hJx hY h0
  have hB0 : w0.heap.size ≤ W.heap.size := by have := hw0.size; omega
  have hlow : Below w0.heap.size w0 W := hw0.trans (hW.mono hw0.size)
  have hR : ∀ m pre (y : Trm) W1, J pre W1 → pre ++ [y] <+: aheadW x.tasks c L (task : Int) → YieldAt Fence.wide m Tryd.prog l #[.agg (trmCells y).toArray] W1 fun e W' =>
      (e = .returned (.bool true) ∧ J (pre ++ [y]) W' ∧ KpU UsT w0.heap.size (w.heap.size + 2) W1 W') ∨ (e = .returned (.bool false) ∧ Jx (pre ++ [y]) W' ∧ KpU UsT w0.heap.size (w.heap.size + 2) W1 W') := fun m pre y W1 hj hp => yieldAt_any open_wide (hY pre y W1 hj hp)
  clear hY
  have HSL : Hid ((shCells v x c T L).length = 31) := shCells_len v x c hT hL
  obtain ⟨W0, hW0⟩ : ∃ W0, W.alloc (.cells #[.func (.yield l) #[] #[]] 138) = W0 := ⟨_, rfl⟩
  have K0 : Keep [] W W0 := by rw [← hW0]; exact (Keep.refl _ W).alloc _
  have s0 : ST w0 Bs Bt W.heap.size l (shCells v x c T L) (task : Int) W0 := by
    refine ⟨?_, ?_, by rw [← hW0]; exact Blk.new _ _ _, ?_⟩
    · exact Blk.keep0 (show Blk W Bs _ _ from (hW.block Bs hBs).trans hbs) K0
    · exact Blk.keep0 (show Blk W Bt _ _ from (hW.block Bt hBt).trans hbt) K0
    · exact hlow.trans ⟨K0.os, K0.tape, K0.output, K0.size, fun x hx => K0.block x (by omega) (by simp)⟩
  have hz0 : W0.heap.size = W.heap.size + 1 := by rw [← hW0]; simp
  have kk0 : KpU UsT w0.heap.size (w.heap.size + 2) W W0 := kpu_keep0 K0 hB0
  have j0 := hJ.k0 h0 K0
  have HW := Lib.hid hW0
  have hSF : ∀ w', ST w0 Bs Bt W.heap.size l (shCells v x c T L) (task : Int) w' → w'.cell? ⟨Bt, 0, none⟩ = some (.int .i64 (task : Int)) ∧ w'.cell? ⟨W.heap.size, 0, none⟩ = some (.func (.yield l) #[] #[]) ∧ w'.cell? ⟨Bs, 1, none⟩ = some (.slice v.ta x.tasks.length v.tc) := fun w' h =>
    ⟨by rw [h.tk.cell]; rfl, by rw [h.yl.cell]; rfl, by rw [h.sh.cell]; rfl⟩
  have hSC : ∀ w', ST w0 Bs Bt W.heap.size l (shCells v x c T L) (task : Int) w' → CellsAt w' Bs 4 (clsCells c) := fun w' h => (sh_parts h.sh hT).2.2.1
  have hSA : ∀ w', ST w0 Bs Bt W.heap.size l (shCells v x c T L) (task : Int) w' → CellsAt w' Bs 0 (shCells v x c T L) := fun w' h => h.sh.cellsAt
  have HBo := fun w => Lib.hid (both_any c w hc)
  have HBe := fun w => Lib.hid (below_any c.both (task : Int) w hc.both)
  have hbl := belowN_lt (task : Int) hc.both
  have HTb : ∀ w', ST w0 Bs Bt W.heap.size l (shCells v x c T L) (task : Int) w' → Tab w' := fun w' h => hTb.keep0 (keepB h.low)
  have HIm : ∀ w', ST w0 Bs Bt W.heap.size l (shCells v x c T L) (task : Int) w' → ImgAt w' v x := fun w' h => hx.keep0 (keepB h.low)
  have hl := hx.lt
  unfold maxLen at hl
  have hlon := hx.ok.lon
  have HOf := fun i hi w => Lib.hid (off_any v x c T L i w hc hT hL hi)
  have HAW : Hid (aheadW x.tasks c L (task : Int) = termsW x.tasks c L (bitsL (belowN c.both (task : Int)))) := show _ = _ from rfl
  have hT00 := hTb.1
  clear hx hTb hbs hbt hW0 K0 h0
  rw [callsIn_wide, ← callsIn_wide (n := 9)]
  refine callsIn_of_wp_marks Tryd.func73 rfl trivial ?_ rfl
  simp only [Tryd.ntmps73, List.size_toArray, List.length_cons, List.length_nil, Nat.reduceAdd, Nat.reduceSub, Array.replicate_succ, Array.replicate_zero, List.push_toArray, List.append_toArray, List.nil_append, List.cons_append]
  gi_wp2_with (rw [HW.out])
  refine ai_start (ST w0 Bs Bt W.heap.size l (shCells v x c T L) (task : Int)) rfl rfl (s0.keep0 (Keep.refl _ _).drew) (fun hND hS hPan => ?_)
  have k1 : Keep [] W0 W0.drew := (Keep.refl _ W0).drew
  have j1 := hJ.k0 j0 k1
  have kk1 : KpU UsT w0.heap.size (w.heap.size + 2) W W0.drew := kk0.step k1 (by simp) hB0
  have hz1 : W0.drew.heap.size = W.heap.size + 1 := hz0
  clear j0 kk0 s0 k1 HW hz0
  generalize W0.drew = w1 at *
  (refine ai_val (v := ?_) 0 rfl open_wide hND (by kernel_rfl) (by kernel_rfl) (by kernel_rfl) (by rfl) hPan ?_ hS ?_; rotate_left; (intro w' hSw; go_simp; try with_reducible rfl); simp only [Act.put, List.setIfInBounds_toArray, List.set_cons_zero, List.set_cons_succ])
  refine ai_agg 1 33 (.tmp 5) (clsCells c) rfl open_wide hND (by kernel_rfl) (by kernel_rfl) (by kernel_rfl) (by rfl) hPan rfl rfl agg_cls hSC hS ?_
  (simp only [Act.put, List.setIfInBounds_toArray, List.set_cons_zero, List.set_cons_succ])
  (refine ai_val (v := ?_) 3 rfl open_wide hND (by kernel_rfl) (by kernel_rfl) (by kernel_rfl) (by rfl) hPan ?_ hS ?_; rotate_left; (intro w' hSw; obtain ⟨f1,f2,f3⟩ := hSF w' hSw; go_simp; try with_reducible rfl); simp only [Act.put, List.setIfInBounds_toArray, List.set_cons_zero, List.set_cons_succ])
  refine ai_one 2 (by kernel_rfl) (oi_call (f := 38) 2 rfl open_wide hND (by rfl) rfl (by simp only [List.map_toArray, List.map_cons, List.map_nil]; rfl) Tryd.func38 (by kernel_rfl) (by kernel_rfl) (HBo _).out ?_)
  rintro e w2 ⟨rfl, k2⟩
  have hS2 := hS.keep0 k2
  refine ⟨_, rfl, hS2, ?_⟩
  clear hS
  (simp only [Act.put, List.setIfInBounds_toArray, List.set_cons_zero, List.set_cons_succ])
  have hS := hS2
  refine ai_one 4 (by kernel_rfl) (oi_call (f := 74) 4 rfl open_wide hND (by rfl) rfl (by simp only [List.map_toArray, List.map_cons, List.map_nil]; rfl) Tryd.func74 (by kernel_rfl) (by kernel_rfl) (HBe _).out ?_)
  rintro e w3 ⟨rfl, rfl⟩
  refine ⟨_, rfl, hS, ?_⟩
  (simp only [Act.put, List.setIfInBounds_toArray, List.set_cons_zero, List.set_cons_succ])
  refine ai_one 5 (by kernel_rfl) (oi_call (f := 54) 5 rfl open_wide hND (by rfl) rfl (by simp only [List.map_toArray, List.map_cons, List.map_nil]; rfl) Tryd.func54 (by kernel_rfl) (by kernel_rfl) (maskAll_any (belowN c.both (task : Int)) _) ?_)
  rintro e w4 ⟨rfl, hw4⟩
  have k4 : Keep [] w2 w4 := by rw [← hw4]; exact (Keep.refl _ w2).alloc _
  have d4 : Blk w4 w2.heap.size 31 #[.int .u32 (belowN c.both (task : Int) : Int)] := by rw [← hw4]; exact Blk.new _ _ _
  have hz4 : w4.heap.size = w2.heap.size + 1 := by rw [← hw4]; simp
  have hS4 := hS.keep0 k4
  refine ⟨_, rfl, hS4, ?_⟩
  (simp only [Act.put, List.setIfInBounds_toArray, List.set_cons_zero, List.set_cons_succ])
  refine ai_end (by kernel_rfl) ?_ _
  have j4 := hJ.k0 j1 (k2.then k4)
  have kk4 := kk1.step (k2.then k4) (by simp) hB0
  have hz2 := k2.size
  have T4 := HTb w4 hS4
  clear hw4 hS hS2 j1 kk1 k2 k4 hPan
  gi_wp2
  have hss := maskAll1_seq 8 (belowN c.both (task : Int)) w2.heap.size w4 (by omega) d4 hbl T4
  have hT0 := T4.1
  have hlt : ∀ i, i ∈ bitsL (belowN c.both (task : Int)) → i < x.tasks.length := fun i hi => by
    have := bitsL_mem.1 hi
    rw [belowN_bit _ _ _ this.1] at this
    simp at this
    omega
  have hpf : ∀ (pre : List Nat) (i : Nat) (hi : i < x.tasks.length), pre ++ [i] <+: bitsL (belowN c.both (task : Int)) → termsW x.tasks c L pre ++ [⟨x.tasks[i].per, x.tasks[i].cost, offW c L (i : Int), 0⟩] <+: aheadW x.tasks c L (task : Int) ∧
      termsW x.tasks c L (pre ++ [i]) = termsW x.tasks c L pre ++ [⟨x.tasks[i].per, x.tasks[i].cost, offW c L (i : Int), 0⟩] := fun pre i hi h => by
    have e : termsW x.tasks c L (pre ++ [i]) = termsW x.tasks c L pre ++ [⟨x.tasks[i].per, x.tasks[i].cost, offW c L (i : Int), 0⟩] := by
      unfold termsW
      rw [List.flatMap_append]
      simp [termW, List.getElem?_eq_getElem hi]
    refine ⟨?_, e⟩
    obtain ⟨r, hr⟩ := h
    rw [← e, HAW.out, ← hr]
    exact ⟨r.flatMap (termW x.tasks c L), by unfold termsW; rw [← List.flatMap_append]⟩
  refine wpIn_rangeT (F := Fence.wide) (n := 9) (Lo := LoN) (ps := #[11]) rfl (by omega) (gf := 85) (lb := #[.pointer (some ⟨w2.heap.size, 0, none⟩)]) rfl trivial (enters_of Tryd.func85 (by kernel_rfl) rfl)
    (hss.toT _) Same.trans (fun W _ o' _ _ => same_putO (by simp; omega) o') (Below.refl _ _) (fun _ => rfl)
    (fun pre W' => J (termsW x.tasks c L pre) W' ∧ (ST w0 Bs Bt W.heap.size l (shCells v x c T L) (task : Int) W' ∧ KpU UsT w0.heap.size (w.heap.size + 2) W W' ∧ Blk W' w2.heap.size 31 #[.int .u32 (belowN c.both (task : Int) : Int)]))
    (fun c' _ W' => c' = .ret ∧ ∃ q, q <+: aheadW x.tasks c L (task : Int) ∧ Jx q W')
    ?hI ?hIx ⟨j4, hS4, kk4, d4⟩
    (fun i => { tmps := #[.func (.yield l) #[] #[], .pointer (some ⟨Bs, 0, none⟩), .pointer (some ⟨Bt, 0, none⟩), .pointer (some ⟨W.heap.size, 0, none⟩), .int .i64 (i : Int), .pointer (some ⟨Bs, 4, none⟩), .agg (clsCells c).toArray, .int .u32 (c.both : Int), .int .i64 (task : Int), .int .u32 (belowN c.both (task : Int) : Int),
      .func (.func 85) #[] #[.pointer (some ⟨w2.heap.size, 0, none⟩)], .int .i64 (i : Int), undef, undef, undef, undef, undef, undef, undef, undef, undef, undef, undef, undef, undef, undef, undef, undef, undef, undef, undef, undef, undef], defers := [] }) ?assign ?body ?done ?stop
  case hI =>
    refine OwnFrom.toT (OwnFrom.and ?_ (OwnFrom.and ?_ (OwnFrom.and ?_ ?_)))
    · exact fun pre X Y row hs hg hr => hJ.own _ X Y row hs hg (fun r e => ⟨by have := (hr r e).1; omega, (hr r e).2⟩)
    · exact fun pre X Y row hs hg hr => ⟨blk_own (β := Unit) _ _ (fun _ => _) () X Y row hs.sh hg hr, blk_own (β := Unit) _ _ (fun _ => _) () X Y row hs.tk hg hr, blk_own (β := Unit) _ _ (fun _ => _) () X Y row hs.yl hg hr, by
        have k : Keep row.toList X Y := Keep.of_grown hg
        exact hs.low.trans ⟨k.os, k.tape, k.output, k.size, fun y hy => k.block y (Nat.lt_of_lt_of_le hy hs.low.size) (fun hm => by have := (hr y (by simpa using hm)).1; omega)⟩⟩
    · exact fun pre X Y row hs hg hr => KpU.own hB0 () X Y row hs hg (fun r e => ⟨by have := (hr r e).1; omega, (hr r e).2⟩)
    · exact blk_own _ _ _
  case hIx =>
    intro c'
    refine OwnFrom.toT (OwnFrom.and (fun _ _ _ _ hs _ _ => hs) ?_)
    rintro pre X Y row ⟨q, hq, hs⟩ hg hr
    exact ⟨q, hq, hJx.own _ X Y row hs hg (fun r e => ⟨by have := (hr r e).1; omega, (hr r e).2⟩)⟩
  case assign =>
    intro l' i W' K hK
    simp only [encN]
    gi_wp2
    exact hK
  case body =>
    rintro l' pre i Wb ⟨hj, hs, hk, hd⟩ hpre
    have hi := hlt i (hpre.subset (by simp))
    obtain ⟨hp2, hte⟩ := hpf pre i hi hpre
    have hi1 : (i : Int) < (x.tasks.length : Int) := by omega
    have hi0 : (0 : Int) ≤ (i : Int) := by omega
    have hdec : decide (x.tasks.length ≤ i) = false := by simp; omega
    have HOi := HOf (i : Int) (fun _ => by omega)
    have HTL : Hid ((tskCells x.tasks[i]).length = 11) := tskCells_len (hlon _ (List.getElem_mem hi))
    have HDO := fun w => Lib.hid (demOfO_any x.tasks[i] (offW c L (i : Int)) w)
    have hnn : x.tasks.length ≠ 0 := by omega
    obtain ⟨b, o, hA, hbw, hcs2⟩ := (HIm Wb hs).task (by omega)
    have hTC : ∀ w', ST w0 Bs Bt W.heap.size l (shCells v x c T L) (task : Int) w' → CellsAt w' b (o + i * 11) (tskCells x.tasks[i]) := fun w' h => by
      obtain ⟨b', o', hA', _, hcs'⟩ := (HIm w' h).task (by omega)
      rw [hA] at hA'
      cases hA'
      exact hcs' i hi
    have hSF2 : ∀ w', ST w0 Bs Bt W.heap.size l (shCells v x c T L) (task : Int) w' → w'.cell? ⟨W.heap.size, 0, none⟩ = some (.func (.yield l) #[] #[]) ∧ w'.cell? ⟨Bs, 1, none⟩ = some (.slice (some ⟨b, o, none⟩) x.tasks.length v.tc) := fun w' h => by
      obtain ⟨_, h2, h3⟩ := hSF w' h
      rw [hA] at h3
      exact ⟨h2, h3⟩
    gi_wp2
    refine ai_start (ST w0 Bs Bt W.heap.size l (shCells v x c T L) (task : Int)) rfl rfl (hs.keep0 (Keep.refl _ _).drew) (fun hND hS hPan => ?_)
    have jb := hJ.k0 hj (Keep.refl _ Wb).drew
    have kb : KpU UsT w0.heap.size (w.heap.size + 2) W Wb.drew := hk.step (F := []) (Keep.refl _ Wb).drew (by simp) hB0
    have db : Blk Wb.drew w2.heap.size 31 #[.int .u32 (belowN c.both (task : Int) : Int)] := hd
    have hdr : ∀ k : Nat, Wb.drew.heap[k]? = Wb.heap[k]? := fun k => rfl
    have hdz : Wb.drew.heap.size = Wb.heap.size := rfl
    generalize Wb.drew = wd at *
    clear hSF hSC HIm HTb hpf hss HOf hlt
    (refine ai_val (v := ?_) 0 rfl (open_round _) hND (by kernel_rfl) (by kernel_rfl) (by kernel_rfl) (by rfl) hPan ?_ hS ?_; rotate_left; (intro w' hSw; obtain ⟨f0, f1⟩ := hSF2 w' hSw; go_simp; try with_reducible rfl); simp only [Act.put, List.setIfInBounds_toArray, List.set_cons_zero, List.set_cons_succ])
    (refine ai_val (v := ?_) 1 rfl (open_round _) hND (by kernel_rfl) (by kernel_rfl) (by kernel_rfl) (by rfl) hPan ?_ hS ?_; rotate_left; (intro w' hSw; obtain ⟨f0, f1⟩ := hSF2 w' hSw; go_simp; try with_reducible rfl); simp only [Act.put, List.setIfInBounds_toArray, List.set_cons_zero, List.set_cons_succ])
    (refine ai_val (v := ?_) 2 rfl (open_round _) hND (by kernel_rfl) (by kernel_rfl) (by kernel_rfl) (by rfl) hPan ?_ hS ?_; rotate_left; (intro w' hSw; obtain ⟨f0, f1⟩ := hSF2 w' hSw; go_simp; try with_reducible rfl); simp only [Act.put, List.setIfInBounds_toArray, List.set_cons_zero, List.set_cons_succ])
    (refine ai_val (v := ?_) 3 rfl (open_round _) hND (by kernel_rfl) (by kernel_rfl) (by kernel_rfl) (by rfl) hPan ?_ hS ?_; rotate_left; (intro w' hSw; obtain ⟨f0, f1⟩ := hSF2 w' hSw; go_simp; try with_reducible rfl); simp only [Act.put, List.setIfInBounds_toArray, List.set_cons_zero, List.set_cons_succ])
    (refine ai_val (v := ?_) 4 rfl (open_round _) hND (by kernel_rfl) (by kernel_rfl) (by kernel_rfl) (by rfl) hPan ?_ hS ?_; rotate_left; (intro w' hSw; obtain ⟨f0, f1⟩ := hSF2 w' hSw; go_simp; try with_reducible rfl); simp only [Act.put, List.setIfInBounds_toArray, List.set_cons_zero, List.set_cons_succ])
    (refine ai_val (v := ?_) 5 rfl (open_round _) hND (by kernel_rfl) (by kernel_rfl) (by kernel_rfl) (by rfl) hPan ?_ hS ?_; rotate_left; (intro w' hSw; obtain ⟨f0, f1⟩ := hSF2 w' hSw; go_simp; try with_reducible rfl); simp only [Act.put, List.setIfInBounds_toArray, List.set_cons_zero, List.set_cons_succ])
    (refine ai_val (v := ?_) 6 rfl (open_round _) hND (by kernel_rfl) (by kernel_rfl) (by kernel_rfl) (by rfl) hPan ?_ hS ?_; rotate_left; (intro w' hSw; obtain ⟨f0, f1⟩ := hSF2 w' hSw; go_simp; try with_reducible rfl); simp only [Act.put, List.setIfInBounds_toArray, List.set_cons_zero, List.set_cons_succ])
    (refine ai_val (v := ?_) 7 rfl (open_round _) hND (by kernel_rfl) (by kernel_rfl) (by kernel_rfl) (by rfl) hPan ?_ hS ?_; rotate_left; (intro w' hSw; obtain ⟨f0, f1⟩ := hSF2 w' hSw; go_simp; try with_reducible rfl); simp only [Act.put, List.setIfInBounds_toArray, List.set_cons_zero, List.set_cons_succ])
    (refine ai_val (v := ?_) 8 rfl (open_round _) hND (by kernel_rfl) (by kernel_rfl) (by kernel_rfl) (by rfl) hPan ?_ hS ?_; rotate_left; (intro w' hSw; obtain ⟨f0, f1⟩ := hSF2 w' hSw; go_simp; try with_reducible rfl); simp only [Act.put, List.setIfInBounds_toArray, List.set_cons_zero, List.set_cons_succ])
    (refine ai_val (v := ?_) 9 rfl (open_round _) hND (by kernel_rfl) (by kernel_rfl) (by kernel_rfl) (by rfl) hPan ?_ hS ?_; rotate_left; (intro w' hSw; obtain ⟨f0, f1⟩ := hSF2 w' hSw; go_simp; try with_reducible rfl); simp only [Act.put, List.setIfInBounds_toArray, List.set_cons_zero, List.set_cons_succ])
    (refine ai_val (v := ?_) 10 rfl (open_round _) hND (by kernel_rfl) (by kernel_rfl) (by kernel_rfl) (by rfl) hPan ?_ hS ?_; rotate_left; (intro w' hSw; obtain ⟨f0, f1⟩ := hSF2 w' hSw; go_simp; try with_reducible rfl); simp only [Act.put, List.setIfInBounds_toArray, List.set_cons_zero, List.set_cons_succ])
    (refine ai_val (v := ?_) 11 rfl (open_round _) hND (by kernel_rfl) (by kernel_rfl) (by kernel_rfl) (by rfl) hPan ?_ hS ?_; rotate_left; (intro w' hSw; obtain ⟨f0, f1⟩ := hSF2 w' hSw; go_simp; try with_reducible rfl); simp only [Act.put, List.setIfInBounds_toArray, List.set_cons_zero, List.set_cons_succ])
    (refine ai_val (v := ?_) 12 rfl (open_round _) hND (by kernel_rfl) (by kernel_rfl) (by kernel_rfl) (by rfl) hPan ?_ hS ?_; rotate_left; (intro w' hSw; obtain ⟨f0, f1⟩ := hSF2 w' hSw; go_simp; try with_reducible rfl); simp only [Act.put, List.setIfInBounds_toArray, List.set_cons_zero, List.set_cons_succ])
    refine ai_agg 13 81 (.tmp 24) (tskCells x.tasks[i]) rfl (open_round _) hND (by kernel_rfl) (by kernel_rfl) (by kernel_rfl) (by rfl) hPan rfl rfl (by rw [HTL.out]; exact agg_task) hTC hS ?_
    (simp only [Act.put, List.setIfInBounds_toArray, List.set_cons_zero, List.set_cons_succ])
    refine ai_agg 14 37 (.tmp 1) (shCells v x c T L) rfl (open_round _) hND (by kernel_rfl) (by kernel_rfl) (by kernel_rfl) (by rfl) hPan rfl rfl (by rw [HSL.out]; exact agg_shift) hSA hS ?_
    (simp only [Act.put, List.setIfInBounds_toArray, List.set_cons_zero, List.set_cons_succ])
    (refine ai_val (v := ?_) 15 rfl (open_round _) hND (by kernel_rfl) (by kernel_rfl) (by kernel_rfl) (by rfl) hPan ?_ hS ?_; rotate_left; (intro w' hSw; obtain ⟨f0, f1⟩ := hSF2 w' hSw; go_simp; try with_reducible rfl); simp only [Act.put, List.setIfInBounds_toArray, List.set_cons_zero, List.set_cons_succ])
    refine ai_one 16 (by kernel_rfl) (oi_call (f := 44) 16 rfl (open_round _) hND (by rfl) rfl (by simp only [List.map_toArray, List.map_cons, List.map_nil]; rfl) Tryd.func44 (by kernel_rfl) (by kernel_rfl) (HOi _).out ?_)
    rintro e w6 ⟨rfl, k6⟩
    have hS6 := hS.keep0 k6
    refine ⟨_, rfl, hS6, ?_⟩
    clear hS
    (simp only [Act.put, List.setIfInBounds_toArray, List.set_cons_zero, List.set_cons_succ])
    refine ai_one 17 (by kernel_rfl) (oi_call (f := 75) 17 rfl (open_round _) hND (by rfl) rfl (by simp only [List.map_toArray, List.map_cons, List.map_nil]; rfl) Tryd.func75 (by kernel_rfl) (by kernel_rfl) (HDO _).out ?_)
    rintro e w7 ⟨rfl, k7⟩
    have hS := hS6.keep0 k7
    refine ⟨_, rfl, hS, ?_⟩
    have k67 := k6.then k7
    have j7 := hJ.k0 jb k67
    have kk7 := kb.step k67 (by simp) hB0
    have d7 := db.keep0 k67
    have z7 := k67.size
    clear hS6
    (simp only [Act.put, List.setIfInBounds_toArray, List.set_cons_zero, List.set_cons_succ])
    refine ai_one 18 (by kernel_rfl) (oi_yield 18 rfl (open_round _) hND (by rfl) rfl rfl (vs := #[.agg (trmCells ⟨x.tasks[i].per, x.tasks[i].cost, offW c L (i : Int), 0⟩).toArray]) (by simp only [List.map_toArray, List.map_cons, List.map_nil]; rfl) (hR 6 _ _ w7 j7 hp2) rfl ?_)
    rintro e w8 (⟨rfl, j8, kr⟩ | ⟨rfl, jx, kr⟩)
    all_goals
      have d8 := kr.blk d7 (by decide)
      have hS8 := hS.kp kr (Nat.le_refl _)
      have hkf : KeepsFrom w4.heap.size Wb w8 := ⟨by have := kr.other.size; omega, fun k o hk2 ho hc => kr.other.same k o (by omega) ((k67.block k (by have := (Array.getElem?_eq_some_iff.1 ho).1; omega) (by simp)).trans ((hdr k).trans ho)) hc⟩
      have hsm : Same [w2.heap.size, 0] Wb w8 := by
        intro y hy
        simp only [List.mem_cons, List.not_mem_nil, or_false] at hy
        rcases hy with rfl | rfl
        · exact (show w8.heap[w2.heap.size]? = _ from d8).trans (show Wb.heap[w2.heap.size]? = _ from hd).symm
        · exact (kr.below.block _ hT00).trans ((k67.block _ (by have := kb.below.size; omega) (by simp)).trans (hdr _))
      refine ⟨_, rfl, hS8, ?_⟩
      replace hS := hS8
      (simp only [Act.put, List.setIfInBounds_toArray, List.set_cons_zero, List.set_cons_succ])
      (refine ai_val (v := ?_) 19 rfl (open_round _) hND (by kernel_rfl) (by kernel_rfl) (by kernel_rfl) (by rfl) hPan ?_ hS ?_; rotate_left; (intro w' hSw; go_simp; try with_reducible rfl); simp only [Act.put, List.setIfInBounds_toArray, List.set_cons_zero, List.set_cons_succ])
      (refine ai_val (v := ?_) 20 rfl (open_round _) hND (by kernel_rfl) (by kernel_rfl) (by kernel_rfl) (by rfl) hPan ?_ hS ?_; rotate_left; (intro w' hSw; go_simp; try with_reducible rfl); simp only [Act.put, List.setIfInBounds_toArray, List.set_cons_zero, List.set_cons_succ])
      refine ai_end (by kernel_rfl) ?_ _
      gi_wp2
    · exact ⟨hkf, hsm, by rw [hte]; exact j8, hS8, kk7.trans kr, d8⟩
    · exact ⟨hkf, hsm, rfl, _, hp2, jx⟩
  case done =>
    rintro D Wd hD ⟨hj, hs, hk, hd⟩ hD2
    gi_wp2
    refine ⟨by simp, .inl ⟨_, _, rfl, run_takeDeferred hD2, ?_⟩⟩
    refine ⟨_, by simp [results, Tryd.results73, go_sem]; rfl, ⟨_, rfl⟩, .inl ?_⟩
    rw [HAW.out]
    exact hJ.own.putObj _ hj (by omega) hD2 rfl
  case stop =>
    rintro D c' pre Wd hD hpre ⟨rfl, q, hq, hjx⟩ hD2
    gi_wp2
    refine ⟨by simp, .inl ⟨_, _, rfl, run_takeDeferred hD2, ?_⟩⟩
    exact ⟨_, by simp [results, Tryd.results73, go_sem]; rfl, ⟨_, rfl⟩, .inr ⟨q, hq, hJx.own.putObj _ hjx (by omega) hD2 rfl⟩⟩
end Go.Proofs.YtggjhjbcdnffnaaDoor
