/- ImageCopies: the law's walk. -/
import Derived.Test.YtajlkfhekligeaaImgMut
import Derived.Test.YtajlkfhekligeaaImgAl
import Derived.Test.YtajlkfhekligeaaImgRS
import Derived.Test.YtajlkfhekligeaaImgRC
namespace Go.Proofs.Ytajlkfhekligeaa
open Go.RowKit

theorem ah_three {P : Program} {ops : Array Oper} {Q : Exit → Act → World → Prop} {md : Region.Mode} {S : World → Prop} {fuel : Nat} {listed : Array Bool} {a : Act} {w : World} (i j k : Nat) (hr : Region.ready md ops listed = [i, j, k]) (h1 : OpH P md ops Q S fuel listed a w i) (h2 : OpH P md ops Q S fuel listed a w j) (h3 : OpH P md ops Q S fuel listed a w k) : wpAnyH P md ops Q S (fuel + 1) listed a w :=
  wpAnyH_all hr (by simp) (fun q hq => by simp at hq; rcases hq with rfl | rfl | rfl; exact h1; exact h2; exact h3)

section
variable {P : Program} {ops : Array Oper} {rest : List Oper} {o : Oper} {a : Act} {Q : Exit → Act → World → Prop} {w : World}
/-- A whole struct or array loaded, under a guard that lets it. -/
theorem wpList_agg_g (hgd : Region.wanted o (yielded ops a.tmps) = true) (ty : TypeId) (x : Operand) (ho : o.op = .load ty x) {b f : Nat} (hx : a.eval x = .pointer (some ⟨b, f, none⟩)) {cs : List Value} (hA : AggOf P ty cs.length) (hc : CellsAt w b f cs)
    (h : wpList P ops Q rest (a.put o.dst (.agg cs.toArray)) w) : wpList P ops Q (o :: rest) a w := by
  refine wpList_step fun K hK => ?_
  rw [if_pos hgd]
  unfold Oper.wp execOp
  simp only [ho, hx, Instr.loadAt, Instr.sureAddr, Sem.run_bind, Sem.run_pure, Result.andThen_ok, run_loadVar_agg hA hc]
  exact hK _ _ h
end
/-- Two copies, each in a variable of its own. -/
def TwoCopies (w1 : World) (x : Img) (p5 p6 : Value) (wx : World) : Prop :=
  ∃ (B1 B2 g5 g6 : Nat) (vc vw : ImgV), p5 = .pointer (some ⟨g5, 0, none⟩) ∧ p6 = .pointer (some ⟨g6, 0, none⟩) ∧ Blk wx g5 26 (imgCells vc x).toArray ∧ Blk wx g6 26 (imgCells vw x).toArray ∧
    CopyAt B1 wx vc x ∧ CopyAt B2 wx vw x ∧ Under B2 vc ∧ w1.heap.size ≤ B1 ∧ Keep [] w1 wx
theorem own_keepBlk {w w' : World} {B : Nat} {e size n : Nat} {v : Value} {xs : List Value} {g : Nat} {cs : Array Value} (h : w.ownsRow B e size v n xs) (b : Blk w g 26 cs) (hne : e ≠ 26) (k : Keep [g] w w') : w'.ownsRow B e size v n xs :=
  own_keep h k (fun y hy hm => by simp at hm; subst hm; exact own_blk_ne h b hne hy)
theorem CopyAt.keepBlk {w w' : World} {B g : Nat} {v : ImgV} {x : Img} {cs : Array Value} (h : CopyAt B w v x) (b : Blk w g 26 cs) (k : Keep [g] w w') : CopyAt B w' v x :=
  ⟨h.ok, h.ql, own_keepBlk h.tasks b (by decide) k, own_keepBlk h.modes b (by decide) k, own_keepBlk h.edges b (by decide) k, fun i hi hi' => own_keepBlk (h.queues i hi hi') b (by decide) k, h.lt, h.lm, h.le, h.lq⟩
theorem img_one (v : ImgV) (x : Img) : ∀ u ∈ imgCells v x, u.oneCell' = true := by
  intro u hu
  simp [imgCells] at hu
  rcases hu with rfl | rfl | rfl | rfl <;> rfl
theorem great_false {x : Img} (h : greatImg x = false) : x.tasks.length ≤ 40 ∧ x.modes.length ≤ 20 ∧ x.edges.length ≤ 60 ∧ ∀ m ∈ x.modes, m.qs.length ≤ 20 := by
  unfold greatImg at h
  simp only [Bool.or_eq_false_iff, decide_eq_false_iff_not, List.any_eq_false, decide_eq_true_eq] at h
  obtain ⟨⟨⟨h1, h2⟩, h3⟩, h4⟩ := h
  exact ⟨by omega, by omega, by omega, fun m hm => by have := h4 m hm; omega⟩

set_option maxRecDepth 100000 in
set_option maxHeartbeats 4000000 in
theorem imageCopies_any (v v' : ImgV) (x y : Img) (w : World) (h : ImgAt w v x) (h' : ImgAt w v' y) :
    Calls Try.prog 4 #[.agg (imgCells v x).toArray, .agg (imgCells v' y).toArray] w fun e w' => e = .returned (.bool true) ∧ Keep [] w w' := by
  have hb := (img_box w v x).alloc (.cells (imgCells v' y).toArray 26)
  have hb' : Blk ((w.alloc (.cells (imgCells v x).toArray 26)).alloc (.cells (imgCells v' y).toArray 26)) (w.heap.size + 1) 26 (imgCells v' y).toArray := Blk.new1 _ _ _ _
  have K0 := ((Keep.refl [] w).alloc (.cells (imgCells v x).toArray 26)).alloc (.cells (imgCells v' y).toArray 26)
  obtain ⟨W0, hW0⟩ : ∃ W0, (w.alloc (.cells (imgCells v x).toArray 26)).alloc (.cells (imgCells v' y).toArray 26) = W0 := ⟨_, rfl⟩
  rw [hW0] at hb hb' K0
  have HX := fun W hk => Lib.hid (great_any v x W (h.keep0 hk))
  have HY := fun W hk => Lib.hid (great_any v' y W (h'.keep0 hk))
  have HIL : Hid ((imgCells v x).length = 4) := show _ = _ from rfl
  have HIL' : Hid ((imgCells v' y).length = 4) := show _ = _ from rfl
  have hcx : Hid (∀ W, Keep [] W0 W → CellsAt W w.heap.size 0 (imgCells v x)) := fun W hk => (hb.keep0 hk).cellsAt
  have hcy : Hid (∀ W, Keep [] W0 W → CellsAt W (w.heap.size + 1) 0 (imgCells v' y)) := fun W hk => (hb'.keep0 hk).cellsAt
  have hZ : Hid (∀ W, Keep [] W0 W → w.heap.size ≤ W.heap.size) := fun W hk => Nat.le_trans K0.size hk.size
  cases hgx : greatImg x
  case true =>
    have HGX := Lib.hid hgx
    clear hgx h h' hb hb' HY
    generalize imgCells v x = il at *
    generalize imgCells v' y = il' at *
    go_enter Try.func4, Try.ntmps4
    go_wp2_with (refine wpList_load_agg rfl 26 (.tmp 2) rfl rfl (cs := il) (by rw [HIL.out]; exact agg_image) (hcx.out _ (Keep.refl _ _)) ?_)
    refine (HX _ K0).out.mono ?_
    rintro e w1 ⟨rfl, k1⟩
    rw [HGX.out]
    have K1 := Lib.hid (K0.then k1)
    clear k1
    go_wp2
    go_ret
    exact ⟨rfl, K1.out⟩
  cases hgy : greatImg y
  case true =>
    have HGX := Lib.hid hgx
    have HGY := Lib.hid hgy
    clear hgx hgy h h' hb hb'
    generalize imgCells v x = il at *
    generalize imgCells v' y = il' at *
    go_enter Try.func4, Try.ntmps4
    go_wp2_with (refine wpList_load_agg rfl 26 (.tmp 2) rfl rfl (cs := il) (by rw [HIL.out]; exact agg_image) (hcx.out _ (Keep.refl _ _)) ?_)
    refine (HX _ K0).out.mono ?_
    rintro e w1 ⟨rfl, k1⟩
    rw [HGX.out]
    have K1 := Lib.hid (K0.then k1)
    have k1' := Lib.hid k1
    clear k1
    go_wp2_with (refine wpList_agg_g rfl 26 (.tmp 3) rfl rfl (cs := il') (by rw [HIL'.out]; exact agg_image) (hcy.out _ k1'.out) ?_)
    refine (HY _ K1.out).out.mono ?_
    rintro e w2 ⟨rfl, k2⟩
    rw [HGY.out]
    have K2 := Lib.hid (K1.out.then k2)
    clear k2
    go_wp2
    go_ret
    exact ⟨rfl, K2.out⟩
  obtain ⟨g1, g2, g3, g4⟩ := great_false hgx
  have HCp0 := fun W hk => Lib.hid (copy_any v x W (h.keep0 hk) g1 g2 g3 g4)
  have HSm := fun W hk => Lib.hid (same_any v v' x y W (h.keep0 hk) (h'.keep0 hk))
  have HRm := fun W hk => Lib.hid (rsame_any v v' x y W (h.keep0 hk) (h'.keep0 hk))
  have HRc := fun W hk vc (hc : ImgAt W vc x) => Lib.hid (rsame_any vc v x x W hc (h.keep0 hk))
  have HRw := fun W hk vw (hc : ImgAt W vw x) => Lib.hid (rsame_any v vw x x W (h.keep0 hk) hc)
  have HSw := fun W hk vw (hc : ImgAt W vw x) => Lib.hid (same_any v vw x x W (h.keep0 hk) hc)
  have hdxx : Hid (decide (x = x) = true) := by show _ = _; simp
  have hdxy : ∃ bb, decide (x = y) = bb := ⟨_, rfl⟩
  obtain ⟨bb, hbb⟩ := hdxy
  rw [hbb] at HSm HRm
  have hne : (bb != bb) = false := by simp
  have HGX := Lib.hid hgx
  have HGY := Lib.hid hgy
  have hl1 : x.tasks.length ≤ 40 := g1
  have hqq := Lib.hid g4
  clear hgx hgy h h' hbb hb hb' g4
  generalize imgCells v x = il at *
  generalize imgCells v' y = il' at *
  go_enter Try.func4, Try.ntmps4
  go_wp2_with (refine wpList_load_agg rfl 26 (.tmp 2) rfl rfl (cs := il) (by rw [HIL.out]; exact agg_image) (hcx.out _ (Keep.refl _ _)) ?_)
  refine (HX _ K0).out.mono ?_
  rintro e w0 ⟨rfl, k1⟩
  rw [HGX.out]
  have K1 := Lib.hid (K0.then k1)
  have k1' := Lib.hid k1
  clear k1 hW0
  go_wp2_with (refine wpList_agg_g rfl 26 (.tmp 3) rfl rfl (cs := il') (by rw [HIL'.out]; exact agg_image) (hcy.out _ k1'.out) ?_)
  refine (HY _ K1.out).out.mono ?_
  rintro e w1 ⟨rfl, k2⟩
  rw [HGY.out]
  have K2 := Lib.hid (K1.out.then k2)
  have k2' := Lib.hid (k1'.out.then k2)
  clear k2 HX HY K0
  go_wp2
  have HCp : ∀ W (hk : Keep [] w1 W), Hid (Calls Try.prog 12 #[.agg il.toArray] W (CopyRet W x)) := fun W hk => (HCp0 W (K2.out.then hk)).out
  clear HCp0
  go_upto_region 3 with fail
  go_cut [5, 6] (fun p5 p6 wx => TwoCopies w1 x p5 p6 wx)
  case first =>
    clear HSm HRm HRc HRw HSw
    -- DEV 1
    refine hg_start (Keep [] w1) (by kernel_rfl) (Keep.refl _ _).drew (by intro c a d v w h; cases d <;> exact h) (fun hS hPan => ?_)
    obtain ⟨V0, hV0⟩ : ∃ V0, w1.drew = V0 := ⟨_, rfl⟩
    rw [hV0] at hS ⊢
    clear hV0
    refine hg_agg 0 26 (.tmp 2) il rfl (by kernel_rfl) (by kernel_rfl) (by kernel_rfl) (by rfl) hPan rfl rfl (by rw [HIL.out]; exact agg_image) (fun w' hw => hcx.out w' (k2'.out.then hw)) hS ?_
    (simp only [Act.put, List.setIfInBounds_toArray, List.set_cons_zero, List.set_cons_succ])
    refine hg_agg 2 26 (.tmp 2) il rfl (by kernel_rfl) (by kernel_rfl) (by kernel_rfl) (by rfl) hPan rfl rfl (by rw [HIL.out]; exact agg_image) (fun w' hw => hcx.out w' (k2'.out.then hw)) hS ?_
    (simp only [Act.put, List.setIfInBounds_toArray, List.set_cons_zero, List.set_cons_succ])
    refine ah_three 1 4 5 (by kernel_rfl) ?_ ?_ ?_
    · refine oph_call (vs := #[.agg il.toArray]) 1 rfl (by simp only [List.map_toArray, List.map_cons, List.map_nil]; rfl) Try.func12 (by kernel_rfl) (by kernel_rfl) (HCp _ hS).out ?_
      rintro e w101 ⟨vc, rfl, hc1, k1⟩
      have hB1 := hS.size
      have hun := hc1.under
      have hS := hS.then k1
      refine ⟨_, rfl, hS, ?_⟩
      clear k1
      (simp only [Act.put, List.setIfInBounds_toArray, List.set_cons_zero, List.set_cons_succ])
      refine ah_three 3 4 5 (by kernel_rfl) ?_ ?_ ?_
      · refine oph_call (vs := #[.agg il.toArray]) 3 rfl (by simp only [List.map_toArray, List.map_cons, List.map_nil]; rfl) Try.func12 (by kernel_rfl) (by kernel_rfl) (HCp _ hS).out ?_
        rintro e w102 ⟨vw, rfl, hc2, k3⟩
        have hun2 := hun
        have hc1 := hc1.keep0 k3
        clear hun
        have hS := hS.then k3
        refine ⟨_, rfl, hS, ?_⟩
        clear k3
        (simp only [Act.put, List.setIfInBounds_toArray, List.set_cons_zero, List.set_cons_succ])
        refine ah_two 4 5 (by kernel_rfl) ?_ ?_
        · refine oph_run (v := .pointer (some ⟨w102.heap.size, 0, none⟩)) (w' := w102.alloc (.cells #[.int .i64 0, .slice none 0 0, .slice none 0 0, .slice none 0 0] 26)) 4 rfl (by go_simp) (hS.alloc _) ?_
          (simp only [Act.put, List.setIfInBounds_toArray, List.set_cons_zero, List.set_cons_succ])
          have kA := (Keep.refl [] w102).alloc (.cells #[.int .i64 0, .slice none 0 0, .slice none 0 0, .slice none 0 0] 26)
          have hg5 := hS.size
          have hc1 := hc1.keep0 kA
          have hc2 := hc2.keep0 kA
          have b5 := Blk.new w102 26 #[.int .i64 0, .slice none 0 0, .slice none 0 0, .slice none 0 0]
          have hS := hS.then kA
          clear kA
          obtain ⟨w103, hW'⟩ : ∃ V, w102.alloc (.cells #[.int .i64 0, .slice none 0 0, .slice none 0 0, .slice none 0 0] 26) = V := ⟨_, rfl⟩
          rw [hW'] at hc1 hc2 b5 hS ⊢
          clear hW'
          refine ah_one 5 (by kernel_rfl) ?_
          refine oph_run (v := .pointer (some ⟨w103.heap.size, 0, none⟩)) (w' := w103.alloc (.cells #[.int .i64 0, .slice none 0 0, .slice none 0 0, .slice none 0 0] 26)) 5 rfl (by go_simp) (hS.alloc _) ?_
          (simp only [Act.put, List.setIfInBounds_toArray, List.set_cons_zero, List.set_cons_succ])
          have kA := (Keep.refl [] w103).alloc (.cells #[.int .i64 0, .slice none 0 0, .slice none 0 0, .slice none 0 0] 26)
          have hne := Nat.ne_of_lt b5.lt
          have hg6 := hS.size
          have hc1 := hc1.keep0 kA
          have hc2 := hc2.keep0 kA
          have b5 := b5.keep0 kA
          have b6 := Blk.new w103 26 #[.int .i64 0, .slice none 0 0, .slice none 0 0, .slice none 0 0]
          have hS := hS.then kA
          clear kA
          obtain ⟨w104, hW'⟩ : ∃ V, w103.alloc (.cells #[.int .i64 0, .slice none 0 0, .slice none 0 0, .slice none 0 0] 26) = V := ⟨_, rfl⟩
          rw [hW'] at hc1 hc2 b5 b6 hS ⊢
          clear hW'
          refine ah_store (vs := imgCells vc x) 6 rfl (by kernel_rfl) rfl rfl (by kernel_rfl) b5 (img_one vc x) rfl ?_
          intro w105 d5 k5
          have hc1 := hc1.keepBlk b5 k5
          have hc2 := hc2.keepBlk b5 k5
          have b6 := b6.keep k5 (by simpa using hne.symm)
          have b5 := d5
          have hS := hS.trans k5 (fun y hy h => by simp at hy; omega)
          refine ⟨hS, ?_⟩
          clear k5 d5
          (simp only [Act.put, List.setIfInBounds_toArray, List.set_cons_zero, List.set_cons_succ])
          refine ah_store (vs := imgCells vw x) 7 rfl (by kernel_rfl) rfl rfl (by kernel_rfl) b6 (img_one vw x) rfl ?_
          intro w106 d5 k5
          have hc1 := hc1.keepBlk b6 k5
          have hc2 := hc2.keepBlk b6 k5
          have b5 := b5.keep k5 (by simpa using hne)
          have b6 := d5
          have hS := hS.trans k5 (fun y hy h => by simp at hy; omega)
          refine ⟨hS, ?_⟩
          clear k5 d5
          (simp only [Act.put, List.setIfInBounds_toArray, List.set_cons_zero, List.set_cons_succ])
          refine wpAnyH_done (by kernel_rfl) ?_ _
          have hfin : TwoCopies w1 x (.pointer (some ⟨w102.heap.size, 0, none⟩)) (.pointer (some ⟨w103.heap.size, 0, none⟩)) w106 := ⟨_, _, _, _, _, _, rfl, rfl, b5, b6, hc1, hc2, hun2, hB1, hS⟩
          have HFIN := Lib.hid hfin
          clear hfin hc1 hc2 b5 b6 hun2 hB1 hS
          go_wp2_with fail
          go_meet
          exact HFIN.out
        · refine oph_run (v := .pointer (some ⟨w102.heap.size, 0, none⟩)) (w' := w102.alloc (.cells #[.int .i64 0, .slice none 0 0, .slice none 0 0, .slice none 0 0] 26)) 5 rfl (by go_simp) (hS.alloc _) ?_
          (simp only [Act.put, List.setIfInBounds_toArray, List.set_cons_zero, List.set_cons_succ])
          have kA := (Keep.refl [] w102).alloc (.cells #[.int .i64 0, .slice none 0 0, .slice none 0 0, .slice none 0 0] 26)
          have hg6 := hS.size
          have hc1 := hc1.keep0 kA
          have hc2 := hc2.keep0 kA
          have b6 := Blk.new w102 26 #[.int .i64 0, .slice none 0 0, .slice none 0 0, .slice none 0 0]
          have hS := hS.then kA
          clear kA
          obtain ⟨w107, hW'⟩ : ∃ V, w102.alloc (.cells #[.int .i64 0, .slice none 0 0, .slice none 0 0, .slice none 0 0] 26) = V := ⟨_, rfl⟩
          rw [hW'] at hc1 hc2 b6 hS ⊢
          clear hW'
          refine ah_one 4 (by kernel_rfl) ?_
          refine oph_run (v := .pointer (some ⟨w107.heap.size, 0, none⟩)) (w' := w107.alloc (.cells #[.int .i64 0, .slice none 0 0, .slice none 0 0, .slice none 0 0] 26)) 4 rfl (by go_simp) (hS.alloc _) ?_
          (simp only [Act.put, List.setIfInBounds_toArray, List.set_cons_zero, List.set_cons_succ])
          have kA := (Keep.refl [] w107).alloc (.cells #[.int .i64 0, .slice none 0 0, .slice none 0 0, .slice none 0 0] 26)
          have hne := (Nat.ne_of_lt b6.lt).symm
          have hg5 := hS.size
          have hc1 := hc1.keep0 kA
          have hc2 := hc2.keep0 kA
          have b6 := b6.keep0 kA
          have b5 := Blk.new w107 26 #[.int .i64 0, .slice none 0 0, .slice none 0 0, .slice none 0 0]
          have hS := hS.then kA
          clear kA
          obtain ⟨w108, hW'⟩ : ∃ V, w107.alloc (.cells #[.int .i64 0, .slice none 0 0, .slice none 0 0, .slice none 0 0] 26) = V := ⟨_, rfl⟩
          rw [hW'] at hc1 hc2 b5 b6 hS ⊢
          clear hW'
          refine ah_store (vs := imgCells vc x) 6 rfl (by kernel_rfl) rfl rfl (by kernel_rfl) b5 (img_one vc x) rfl ?_
          intro w109 d5 k5
          have hc1 := hc1.keepBlk b5 k5
          have hc2 := hc2.keepBlk b5 k5
          have b6 := b6.keep k5 (by simpa using hne.symm)
          have b5 := d5
          have hS := hS.trans k5 (fun y hy h => by simp at hy; omega)
          refine ⟨hS, ?_⟩
          clear k5 d5
          (simp only [Act.put, List.setIfInBounds_toArray, List.set_cons_zero, List.set_cons_succ])
          refine ah_store (vs := imgCells vw x) 7 rfl (by kernel_rfl) rfl rfl (by kernel_rfl) b6 (img_one vw x) rfl ?_
          intro w110 d5 k5
          have hc1 := hc1.keepBlk b6 k5
          have hc2 := hc2.keepBlk b6 k5
          have b5 := b5.keep k5 (by simpa using hne)
          have b6 := d5
          have hS := hS.trans k5 (fun y hy h => by simp at hy; omega)
          refine ⟨hS, ?_⟩
          clear k5 d5
          (simp only [Act.put, List.setIfInBounds_toArray, List.set_cons_zero, List.set_cons_succ])
          refine wpAnyH_done (by kernel_rfl) ?_ _
          have hfin : TwoCopies w1 x (.pointer (some ⟨w107.heap.size, 0, none⟩)) (.pointer (some ⟨w102.heap.size, 0, none⟩)) w110 := ⟨_, _, _, _, _, _, rfl, rfl, b5, b6, hc1, hc2, hun2, hB1, hS⟩
          have HFIN := Lib.hid hfin
          clear hfin hc1 hc2 b5 b6 hun2 hB1 hS
          go_wp2_with fail
          go_meet
          exact HFIN.out
      · refine oph_run (v := .pointer (some ⟨w101.heap.size, 0, none⟩)) (w' := w101.alloc (.cells #[.int .i64 0, .slice none 0 0, .slice none 0 0, .slice none 0 0] 26)) 4 rfl (by go_simp) (hS.alloc _) ?_
        (simp only [Act.put, List.setIfInBounds_toArray, List.set_cons_zero, List.set_cons_succ])
        have kA := (Keep.refl [] w101).alloc (.cells #[.int .i64 0, .slice none 0 0, .slice none 0 0, .slice none 0 0] 26)
        have hg5 := hS.size
        have hc1 := hc1.keep0 kA
        have hun := hun.mono kA.size
        have b5 := Blk.new w101 26 #[.int .i64 0, .slice none 0 0, .slice none 0 0, .slice none 0 0]
        have hS := hS.then kA
        clear kA
        obtain ⟨w111, hW'⟩ : ∃ V, w101.alloc (.cells #[.int .i64 0, .slice none 0 0, .slice none 0 0, .slice none 0 0] 26) = V := ⟨_, rfl⟩
        rw [hW'] at hc1 hun b5 hS ⊢
        clear hW'
        refine ah_two 3 5 (by kernel_rfl) ?_ ?_
        · refine oph_call (vs := #[.agg il.toArray]) 3 rfl (by simp only [List.map_toArray, List.map_cons, List.map_nil]; rfl) Try.func12 (by kernel_rfl) (by kernel_rfl) (HCp _ hS).out ?_
          rintro e w112 ⟨vw, rfl, hc2, k3⟩
          have hun2 := hun
          have hc1 := hc1.keep0 k3
          have b5 := b5.keep0 k3
          clear hun
          have hS := hS.then k3
          refine ⟨_, rfl, hS, ?_⟩
          clear k3
          (simp only [Act.put, List.setIfInBounds_toArray, List.set_cons_zero, List.set_cons_succ])
          refine ah_one 5 (by kernel_rfl) ?_
          refine oph_run (v := .pointer (some ⟨w112.heap.size, 0, none⟩)) (w' := w112.alloc (.cells #[.int .i64 0, .slice none 0 0, .slice none 0 0, .slice none 0 0] 26)) 5 rfl (by go_simp) (hS.alloc _) ?_
          (simp only [Act.put, List.setIfInBounds_toArray, List.set_cons_zero, List.set_cons_succ])
          have kA := (Keep.refl [] w112).alloc (.cells #[.int .i64 0, .slice none 0 0, .slice none 0 0, .slice none 0 0] 26)
          have hne := Nat.ne_of_lt b5.lt
          have hg6 := hS.size
          have hc1 := hc1.keep0 kA
          have hc2 := hc2.keep0 kA
          have b5 := b5.keep0 kA
          have b6 := Blk.new w112 26 #[.int .i64 0, .slice none 0 0, .slice none 0 0, .slice none 0 0]
          have hS := hS.then kA
          clear kA
          obtain ⟨w113, hW'⟩ : ∃ V, w112.alloc (.cells #[.int .i64 0, .slice none 0 0, .slice none 0 0, .slice none 0 0] 26) = V := ⟨_, rfl⟩
          rw [hW'] at hc1 hc2 b5 b6 hS ⊢
          clear hW'
          refine ah_store (vs := imgCells vc x) 6 rfl (by kernel_rfl) rfl rfl (by kernel_rfl) b5 (img_one vc x) rfl ?_
          intro w114 d5 k5
          have hc1 := hc1.keepBlk b5 k5
          have hc2 := hc2.keepBlk b5 k5
          have b6 := b6.keep k5 (by simpa using hne.symm)
          have b5 := d5
          have hS := hS.trans k5 (fun y hy h => by simp at hy; omega)
          refine ⟨hS, ?_⟩
          clear k5 d5
          (simp only [Act.put, List.setIfInBounds_toArray, List.set_cons_zero, List.set_cons_succ])
          refine ah_store (vs := imgCells vw x) 7 rfl (by kernel_rfl) rfl rfl (by kernel_rfl) b6 (img_one vw x) rfl ?_
          intro w115 d5 k5
          have hc1 := hc1.keepBlk b6 k5
          have hc2 := hc2.keepBlk b6 k5
          have b5 := b5.keep k5 (by simpa using hne)
          have b6 := d5
          have hS := hS.trans k5 (fun y hy h => by simp at hy; omega)
          refine ⟨hS, ?_⟩
          clear k5 d5
          (simp only [Act.put, List.setIfInBounds_toArray, List.set_cons_zero, List.set_cons_succ])
          refine wpAnyH_done (by kernel_rfl) ?_ _
          have hfin : TwoCopies w1 x (.pointer (some ⟨w101.heap.size, 0, none⟩)) (.pointer (some ⟨w112.heap.size, 0, none⟩)) w115 := ⟨_, _, _, _, _, _, rfl, rfl, b5, b6, hc1, hc2, hun2, hB1, hS⟩
          have HFIN := Lib.hid hfin
          clear hfin hc1 hc2 b5 b6 hun2 hB1 hS
          go_wp2_with fail
          go_meet
          exact HFIN.out
        · refine oph_run (v := .pointer (some ⟨w111.heap.size, 0, none⟩)) (w' := w111.alloc (.cells #[.int .i64 0, .slice none 0 0, .slice none 0 0, .slice none 0 0] 26)) 5 rfl (by go_simp) (hS.alloc _) ?_
          (simp only [Act.put, List.setIfInBounds_toArray, List.set_cons_zero, List.set_cons_succ])
          have kA := (Keep.refl [] w111).alloc (.cells #[.int .i64 0, .slice none 0 0, .slice none 0 0, .slice none 0 0] 26)
          have hne := Nat.ne_of_lt b5.lt
          have hg6 := hS.size
          have hc1 := hc1.keep0 kA
          have hun := hun.mono kA.size
          have b5 := b5.keep0 kA
          have b6 := Blk.new w111 26 #[.int .i64 0, .slice none 0 0, .slice none 0 0, .slice none 0 0]
          have hS := hS.then kA
          clear kA
          obtain ⟨w116, hW'⟩ : ∃ V, w111.alloc (.cells #[.int .i64 0, .slice none 0 0, .slice none 0 0, .slice none 0 0] 26) = V := ⟨_, rfl⟩
          rw [hW'] at hc1 hun b5 b6 hS ⊢
          clear hW'
          refine ah_one 3 (by kernel_rfl) ?_
          refine oph_call (vs := #[.agg il.toArray]) 3 rfl (by simp only [List.map_toArray, List.map_cons, List.map_nil]; rfl) Try.func12 (by kernel_rfl) (by kernel_rfl) (HCp _ hS).out ?_
          rintro e w117 ⟨vw, rfl, hc2, k3⟩
          have hun2 := hun
          have hc1 := hc1.keep0 k3
          have b5 := b5.keep0 k3
          have b6 := b6.keep0 k3
          clear hun
          have hS := hS.then k3
          refine ⟨_, rfl, hS, ?_⟩
          clear k3
          (simp only [Act.put, List.setIfInBounds_toArray, List.set_cons_zero, List.set_cons_succ])
          refine ah_store (vs := imgCells vc x) 6 rfl (by kernel_rfl) rfl rfl (by kernel_rfl) b5 (img_one vc x) rfl ?_
          intro w118 d5 k5
          have hc1 := hc1.keepBlk b5 k5
          have hc2 := hc2.keepBlk b5 k5
          have b6 := b6.keep k5 (by simpa using hne.symm)
          have b5 := d5
          have hS := hS.trans k5 (fun y hy h => by simp at hy; omega)
          refine ⟨hS, ?_⟩
          clear k5 d5
          (simp only [Act.put, List.setIfInBounds_toArray, List.set_cons_zero, List.set_cons_succ])
          refine ah_store (vs := imgCells vw x) 7 rfl (by kernel_rfl) rfl rfl (by kernel_rfl) b6 (img_one vw x) rfl ?_
          intro w119 d5 k5
          have hc1 := hc1.keepBlk b6 k5
          have hc2 := hc2.keepBlk b6 k5
          have b5 := b5.keep k5 (by simpa using hne)
          have b6 := d5
          have hS := hS.trans k5 (fun y hy h => by simp at hy; omega)
          refine ⟨hS, ?_⟩
          clear k5 d5
          (simp only [Act.put, List.setIfInBounds_toArray, List.set_cons_zero, List.set_cons_succ])
          refine wpAnyH_done (by kernel_rfl) ?_ _
          have hfin : TwoCopies w1 x (.pointer (some ⟨w101.heap.size, 0, none⟩)) (.pointer (some ⟨w111.heap.size, 0, none⟩)) w119 := ⟨_, _, _, _, _, _, rfl, rfl, b5, b6, hc1, hc2, hun2, hB1, hS⟩
          have HFIN := Lib.hid hfin
          clear hfin hc1 hc2 b5 b6 hun2 hB1 hS
          go_wp2_with fail
          go_meet
          exact HFIN.out
      · refine oph_run (v := .pointer (some ⟨w101.heap.size, 0, none⟩)) (w' := w101.alloc (.cells #[.int .i64 0, .slice none 0 0, .slice none 0 0, .slice none 0 0] 26)) 5 rfl (by go_simp) (hS.alloc _) ?_
        (simp only [Act.put, List.setIfInBounds_toArray, List.set_cons_zero, List.set_cons_succ])
        have kA := (Keep.refl [] w101).alloc (.cells #[.int .i64 0, .slice none 0 0, .slice none 0 0, .slice none 0 0] 26)
        have hg6 := hS.size
        have hc1 := hc1.keep0 kA
        have hun := hun.mono kA.size
        have b6 := Blk.new w101 26 #[.int .i64 0, .slice none 0 0, .slice none 0 0, .slice none 0 0]
        have hS := hS.then kA
        clear kA
        obtain ⟨w120, hW'⟩ : ∃ V, w101.alloc (.cells #[.int .i64 0, .slice none 0 0, .slice none 0 0, .slice none 0 0] 26) = V := ⟨_, rfl⟩
        rw [hW'] at hc1 hun b6 hS ⊢
        clear hW'
        refine ah_two 3 4 (by kernel_rfl) ?_ ?_
        · refine oph_call (vs := #[.agg il.toArray]) 3 rfl (by simp only [List.map_toArray, List.map_cons, List.map_nil]; rfl) Try.func12 (by kernel_rfl) (by kernel_rfl) (HCp _ hS).out ?_
          rintro e w121 ⟨vw, rfl, hc2, k3⟩
          have hun2 := hun
          have hc1 := hc1.keep0 k3
          have b6 := b6.keep0 k3
          clear hun
          have hS := hS.then k3
          refine ⟨_, rfl, hS, ?_⟩
          clear k3
          (simp only [Act.put, List.setIfInBounds_toArray, List.set_cons_zero, List.set_cons_succ])
          refine ah_one 4 (by kernel_rfl) ?_
          refine oph_run (v := .pointer (some ⟨w121.heap.size, 0, none⟩)) (w' := w121.alloc (.cells #[.int .i64 0, .slice none 0 0, .slice none 0 0, .slice none 0 0] 26)) 4 rfl (by go_simp) (hS.alloc _) ?_
          (simp only [Act.put, List.setIfInBounds_toArray, List.set_cons_zero, List.set_cons_succ])
          have kA := (Keep.refl [] w121).alloc (.cells #[.int .i64 0, .slice none 0 0, .slice none 0 0, .slice none 0 0] 26)
          have hne := (Nat.ne_of_lt b6.lt).symm
          have hg5 := hS.size
          have hc1 := hc1.keep0 kA
          have hc2 := hc2.keep0 kA
          have b6 := b6.keep0 kA
          have b5 := Blk.new w121 26 #[.int .i64 0, .slice none 0 0, .slice none 0 0, .slice none 0 0]
          have hS := hS.then kA
          clear kA
          obtain ⟨w122, hW'⟩ : ∃ V, w121.alloc (.cells #[.int .i64 0, .slice none 0 0, .slice none 0 0, .slice none 0 0] 26) = V := ⟨_, rfl⟩
          rw [hW'] at hc1 hc2 b5 b6 hS ⊢
          clear hW'
          refine ah_store (vs := imgCells vc x) 6 rfl (by kernel_rfl) rfl rfl (by kernel_rfl) b5 (img_one vc x) rfl ?_
          intro w123 d5 k5
          have hc1 := hc1.keepBlk b5 k5
          have hc2 := hc2.keepBlk b5 k5
          have b6 := b6.keep k5 (by simpa using hne.symm)
          have b5 := d5
          have hS := hS.trans k5 (fun y hy h => by simp at hy; omega)
          refine ⟨hS, ?_⟩
          clear k5 d5
          (simp only [Act.put, List.setIfInBounds_toArray, List.set_cons_zero, List.set_cons_succ])
          refine ah_store (vs := imgCells vw x) 7 rfl (by kernel_rfl) rfl rfl (by kernel_rfl) b6 (img_one vw x) rfl ?_
          intro w124 d5 k5
          have hc1 := hc1.keepBlk b6 k5
          have hc2 := hc2.keepBlk b6 k5
          have b5 := b5.keep k5 (by simpa using hne)
          have b6 := d5
          have hS := hS.trans k5 (fun y hy h => by simp at hy; omega)
          refine ⟨hS, ?_⟩
          clear k5 d5
          (simp only [Act.put, List.setIfInBounds_toArray, List.set_cons_zero, List.set_cons_succ])
          refine wpAnyH_done (by kernel_rfl) ?_ _
          have hfin : TwoCopies w1 x (.pointer (some ⟨w121.heap.size, 0, none⟩)) (.pointer (some ⟨w101.heap.size, 0, none⟩)) w124 := ⟨_, _, _, _, _, _, rfl, rfl, b5, b6, hc1, hc2, hun2, hB1, hS⟩
          have HFIN := Lib.hid hfin
          clear hfin hc1 hc2 b5 b6 hun2 hB1 hS
          go_wp2_with fail
          go_meet
          exact HFIN.out
        · refine oph_run (v := .pointer (some ⟨w120.heap.size, 0, none⟩)) (w' := w120.alloc (.cells #[.int .i64 0, .slice none 0 0, .slice none 0 0, .slice none 0 0] 26)) 4 rfl (by go_simp) (hS.alloc _) ?_
          (simp only [Act.put, List.setIfInBounds_toArray, List.set_cons_zero, List.set_cons_succ])
          have kA := (Keep.refl [] w120).alloc (.cells #[.int .i64 0, .slice none 0 0, .slice none 0 0, .slice none 0 0] 26)
          have hne := (Nat.ne_of_lt b6.lt).symm
          have hg5 := hS.size
          have hc1 := hc1.keep0 kA
          have hun := hun.mono kA.size
          have b6 := b6.keep0 kA
          have b5 := Blk.new w120 26 #[.int .i64 0, .slice none 0 0, .slice none 0 0, .slice none 0 0]
          have hS := hS.then kA
          clear kA
          obtain ⟨w125, hW'⟩ : ∃ V, w120.alloc (.cells #[.int .i64 0, .slice none 0 0, .slice none 0 0, .slice none 0 0] 26) = V := ⟨_, rfl⟩
          rw [hW'] at hc1 hun b5 b6 hS ⊢
          clear hW'
          refine ah_one 3 (by kernel_rfl) ?_
          refine oph_call (vs := #[.agg il.toArray]) 3 rfl (by simp only [List.map_toArray, List.map_cons, List.map_nil]; rfl) Try.func12 (by kernel_rfl) (by kernel_rfl) (HCp _ hS).out ?_
          rintro e w126 ⟨vw, rfl, hc2, k3⟩
          have hun2 := hun
          have hc1 := hc1.keep0 k3
          have b5 := b5.keep0 k3
          have b6 := b6.keep0 k3
          clear hun
          have hS := hS.then k3
          refine ⟨_, rfl, hS, ?_⟩
          clear k3
          (simp only [Act.put, List.setIfInBounds_toArray, List.set_cons_zero, List.set_cons_succ])
          refine ah_store (vs := imgCells vc x) 6 rfl (by kernel_rfl) rfl rfl (by kernel_rfl) b5 (img_one vc x) rfl ?_
          intro w127 d5 k5
          have hc1 := hc1.keepBlk b5 k5
          have hc2 := hc2.keepBlk b5 k5
          have b6 := b6.keep k5 (by simpa using hne.symm)
          have b5 := d5
          have hS := hS.trans k5 (fun y hy h => by simp at hy; omega)
          refine ⟨hS, ?_⟩
          clear k5 d5
          (simp only [Act.put, List.setIfInBounds_toArray, List.set_cons_zero, List.set_cons_succ])
          refine ah_store (vs := imgCells vw x) 7 rfl (by kernel_rfl) rfl rfl (by kernel_rfl) b6 (img_one vw x) rfl ?_
          intro w128 d5 k5
          have hc1 := hc1.keepBlk b6 k5
          have hc2 := hc2.keepBlk b6 k5
          have b5 := b5.keep k5 (by simpa using hne)
          have b6 := d5
          have hS := hS.trans k5 (fun y hy h => by simp at hy; omega)
          refine ⟨hS, ?_⟩
          clear k5 d5
          (simp only [Act.put, List.setIfInBounds_toArray, List.set_cons_zero, List.set_cons_succ])
          refine wpAnyH_done (by kernel_rfl) ?_ _
          have hfin : TwoCopies w1 x (.pointer (some ⟨w120.heap.size, 0, none⟩)) (.pointer (some ⟨w101.heap.size, 0, none⟩)) w128 := ⟨_, _, _, _, _, _, rfl, rfl, b5, b6, hc1, hc2, hun2, hB1, hS⟩
          have HFIN := Lib.hid hfin
          clear hfin hc1 hc2 b5 b6 hun2 hB1 hS
          go_wp2_with fail
          go_meet
          exact HFIN.out
    · refine oph_run (v := .pointer (some ⟨V0.heap.size, 0, none⟩)) (w' := V0.alloc (.cells #[.int .i64 0, .slice none 0 0, .slice none 0 0, .slice none 0 0] 26)) 4 rfl (by go_simp) (hS.alloc _) ?_
      (simp only [Act.put, List.setIfInBounds_toArray, List.set_cons_zero, List.set_cons_succ])
      have kA := (Keep.refl [] V0).alloc (.cells #[.int .i64 0, .slice none 0 0, .slice none 0 0, .slice none 0 0] 26)
      have hg5 := hS.size
      have b5 := Blk.new V0 26 #[.int .i64 0, .slice none 0 0, .slice none 0 0, .slice none 0 0]
      have hS := hS.then kA
      clear kA
      obtain ⟨w129, hW'⟩ : ∃ V, V0.alloc (.cells #[.int .i64 0, .slice none 0 0, .slice none 0 0, .slice none 0 0] 26) = V := ⟨_, rfl⟩
      rw [hW'] at b5 hS ⊢
      clear hW'
      refine ah_two 1 5 (by kernel_rfl) ?_ ?_
      · refine oph_call (vs := #[.agg il.toArray]) 1 rfl (by simp only [List.map_toArray, List.map_cons, List.map_nil]; rfl) Try.func12 (by kernel_rfl) (by kernel_rfl) (HCp _ hS).out ?_
        rintro e w130 ⟨vc, rfl, hc1, k1⟩
        have hB1 := hS.size
        have hun := hc1.under
        have b5 := b5.keep0 k1
        have hS := hS.then k1
        refine ⟨_, rfl, hS, ?_⟩
        clear k1
        (simp only [Act.put, List.setIfInBounds_toArray, List.set_cons_zero, List.set_cons_succ])
        refine ah_two 3 5 (by kernel_rfl) ?_ ?_
        · refine oph_call (vs := #[.agg il.toArray]) 3 rfl (by simp only [List.map_toArray, List.map_cons, List.map_nil]; rfl) Try.func12 (by kernel_rfl) (by kernel_rfl) (HCp _ hS).out ?_
          rintro e w131 ⟨vw, rfl, hc2, k3⟩
          have hun2 := hun
          have hc1 := hc1.keep0 k3
          have b5 := b5.keep0 k3
          clear hun
          have hS := hS.then k3
          refine ⟨_, rfl, hS, ?_⟩
          clear k3
          (simp only [Act.put, List.setIfInBounds_toArray, List.set_cons_zero, List.set_cons_succ])
          refine ah_one 5 (by kernel_rfl) ?_
          refine oph_run (v := .pointer (some ⟨w131.heap.size, 0, none⟩)) (w' := w131.alloc (.cells #[.int .i64 0, .slice none 0 0, .slice none 0 0, .slice none 0 0] 26)) 5 rfl (by go_simp) (hS.alloc _) ?_
          (simp only [Act.put, List.setIfInBounds_toArray, List.set_cons_zero, List.set_cons_succ])
          have kA := (Keep.refl [] w131).alloc (.cells #[.int .i64 0, .slice none 0 0, .slice none 0 0, .slice none 0 0] 26)
          have hne := Nat.ne_of_lt b5.lt
          have hg6 := hS.size
          have hc1 := hc1.keep0 kA
          have hc2 := hc2.keep0 kA
          have b5 := b5.keep0 kA
          have b6 := Blk.new w131 26 #[.int .i64 0, .slice none 0 0, .slice none 0 0, .slice none 0 0]
          have hS := hS.then kA
          clear kA
          obtain ⟨w132, hW'⟩ : ∃ V, w131.alloc (.cells #[.int .i64 0, .slice none 0 0, .slice none 0 0, .slice none 0 0] 26) = V := ⟨_, rfl⟩
          rw [hW'] at hc1 hc2 b5 b6 hS ⊢
          clear hW'
          refine ah_store (vs := imgCells vc x) 6 rfl (by kernel_rfl) rfl rfl (by kernel_rfl) b5 (img_one vc x) rfl ?_
          intro w133 d5 k5
          have hc1 := hc1.keepBlk b5 k5
          have hc2 := hc2.keepBlk b5 k5
          have b6 := b6.keep k5 (by simpa using hne.symm)
          have b5 := d5
          have hS := hS.trans k5 (fun y hy h => by simp at hy; omega)
          refine ⟨hS, ?_⟩
          clear k5 d5
          (simp only [Act.put, List.setIfInBounds_toArray, List.set_cons_zero, List.set_cons_succ])
          refine ah_store (vs := imgCells vw x) 7 rfl (by kernel_rfl) rfl rfl (by kernel_rfl) b6 (img_one vw x) rfl ?_
          intro w134 d5 k5
          have hc1 := hc1.keepBlk b6 k5
          have hc2 := hc2.keepBlk b6 k5
          have b5 := b5.keep k5 (by simpa using hne)
          have b6 := d5
          have hS := hS.trans k5 (fun y hy h => by simp at hy; omega)
          refine ⟨hS, ?_⟩
          clear k5 d5
          (simp only [Act.put, List.setIfInBounds_toArray, List.set_cons_zero, List.set_cons_succ])
          refine wpAnyH_done (by kernel_rfl) ?_ _
          have hfin : TwoCopies w1 x (.pointer (some ⟨V0.heap.size, 0, none⟩)) (.pointer (some ⟨w131.heap.size, 0, none⟩)) w134 := ⟨_, _, _, _, _, _, rfl, rfl, b5, b6, hc1, hc2, hun2, hB1, hS⟩
          have HFIN := Lib.hid hfin
          clear hfin hc1 hc2 b5 b6 hun2 hB1 hS
          go_wp2_with fail
          go_meet
          exact HFIN.out
        · refine oph_run (v := .pointer (some ⟨w130.heap.size, 0, none⟩)) (w' := w130.alloc (.cells #[.int .i64 0, .slice none 0 0, .slice none 0 0, .slice none 0 0] 26)) 5 rfl (by go_simp) (hS.alloc _) ?_
          (simp only [Act.put, List.setIfInBounds_toArray, List.set_cons_zero, List.set_cons_succ])
          have kA := (Keep.refl [] w130).alloc (.cells #[.int .i64 0, .slice none 0 0, .slice none 0 0, .slice none 0 0] 26)
          have hne := Nat.ne_of_lt b5.lt
          have hg6 := hS.size
          have hc1 := hc1.keep0 kA
          have hun := hun.mono kA.size
          have b5 := b5.keep0 kA
          have b6 := Blk.new w130 26 #[.int .i64 0, .slice none 0 0, .slice none 0 0, .slice none 0 0]
          have hS := hS.then kA
          clear kA
          obtain ⟨w135, hW'⟩ : ∃ V, w130.alloc (.cells #[.int .i64 0, .slice none 0 0, .slice none 0 0, .slice none 0 0] 26) = V := ⟨_, rfl⟩
          rw [hW'] at hc1 hun b5 b6 hS ⊢
          clear hW'
          refine ah_one 3 (by kernel_rfl) ?_
          refine oph_call (vs := #[.agg il.toArray]) 3 rfl (by simp only [List.map_toArray, List.map_cons, List.map_nil]; rfl) Try.func12 (by kernel_rfl) (by kernel_rfl) (HCp _ hS).out ?_
          rintro e w136 ⟨vw, rfl, hc2, k3⟩
          have hun2 := hun
          have hc1 := hc1.keep0 k3
          have b5 := b5.keep0 k3
          have b6 := b6.keep0 k3
          clear hun
          have hS := hS.then k3
          refine ⟨_, rfl, hS, ?_⟩
          clear k3
          (simp only [Act.put, List.setIfInBounds_toArray, List.set_cons_zero, List.set_cons_succ])
          refine ah_store (vs := imgCells vc x) 6 rfl (by kernel_rfl) rfl rfl (by kernel_rfl) b5 (img_one vc x) rfl ?_
          intro w137 d5 k5
          have hc1 := hc1.keepBlk b5 k5
          have hc2 := hc2.keepBlk b5 k5
          have b6 := b6.keep k5 (by simpa using hne.symm)
          have b5 := d5
          have hS := hS.trans k5 (fun y hy h => by simp at hy; omega)
          refine ⟨hS, ?_⟩
          clear k5 d5
          (simp only [Act.put, List.setIfInBounds_toArray, List.set_cons_zero, List.set_cons_succ])
          refine ah_store (vs := imgCells vw x) 7 rfl (by kernel_rfl) rfl rfl (by kernel_rfl) b6 (img_one vw x) rfl ?_
          intro w138 d5 k5
          have hc1 := hc1.keepBlk b6 k5
          have hc2 := hc2.keepBlk b6 k5
          have b5 := b5.keep k5 (by simpa using hne)
          have b6 := d5
          have hS := hS.trans k5 (fun y hy h => by simp at hy; omega)
          refine ⟨hS, ?_⟩
          clear k5 d5
          (simp only [Act.put, List.setIfInBounds_toArray, List.set_cons_zero, List.set_cons_succ])
          refine wpAnyH_done (by kernel_rfl) ?_ _
          have hfin : TwoCopies w1 x (.pointer (some ⟨V0.heap.size, 0, none⟩)) (.pointer (some ⟨w130.heap.size, 0, none⟩)) w138 := ⟨_, _, _, _, _, _, rfl, rfl, b5, b6, hc1, hc2, hun2, hB1, hS⟩
          have HFIN := Lib.hid hfin
          clear hfin hc1 hc2 b5 b6 hun2 hB1 hS
          go_wp2_with fail
          go_meet
          exact HFIN.out
      · refine oph_run (v := .pointer (some ⟨w129.heap.size, 0, none⟩)) (w' := w129.alloc (.cells #[.int .i64 0, .slice none 0 0, .slice none 0 0, .slice none 0 0] 26)) 5 rfl (by go_simp) (hS.alloc _) ?_
        (simp only [Act.put, List.setIfInBounds_toArray, List.set_cons_zero, List.set_cons_succ])
        have kA := (Keep.refl [] w129).alloc (.cells #[.int .i64 0, .slice none 0 0, .slice none 0 0, .slice none 0 0] 26)
        have hne := Nat.ne_of_lt b5.lt
        have hg6 := hS.size
        have b5 := b5.keep0 kA
        have b6 := Blk.new w129 26 #[.int .i64 0, .slice none 0 0, .slice none 0 0, .slice none 0 0]
        have hS := hS.then kA
        clear kA
        obtain ⟨w139, hW'⟩ : ∃ V, w129.alloc (.cells #[.int .i64 0, .slice none 0 0, .slice none 0 0, .slice none 0 0] 26) = V := ⟨_, rfl⟩
        rw [hW'] at b5 b6 hS ⊢
        clear hW'
        refine ah_one 1 (by kernel_rfl) ?_
        refine oph_call (vs := #[.agg il.toArray]) 1 rfl (by simp only [List.map_toArray, List.map_cons, List.map_nil]; rfl) Try.func12 (by kernel_rfl) (by kernel_rfl) (HCp _ hS).out ?_
        rintro e w140 ⟨vc, rfl, hc1, k1⟩
        have hB1 := hS.size
        have hun := hc1.under
        have b5 := b5.keep0 k1
        have b6 := b6.keep0 k1
        have hS := hS.then k1
        refine ⟨_, rfl, hS, ?_⟩
        clear k1
        (simp only [Act.put, List.setIfInBounds_toArray, List.set_cons_zero, List.set_cons_succ])
        refine ah_one 3 (by kernel_rfl) ?_
        refine oph_call (vs := #[.agg il.toArray]) 3 rfl (by simp only [List.map_toArray, List.map_cons, List.map_nil]; rfl) Try.func12 (by kernel_rfl) (by kernel_rfl) (HCp _ hS).out ?_
        rintro e w141 ⟨vw, rfl, hc2, k3⟩
        have hun2 := hun
        have hc1 := hc1.keep0 k3
        have b5 := b5.keep0 k3
        have b6 := b6.keep0 k3
        clear hun
        have hS := hS.then k3
        refine ⟨_, rfl, hS, ?_⟩
        clear k3
        (simp only [Act.put, List.setIfInBounds_toArray, List.set_cons_zero, List.set_cons_succ])
        refine ah_store (vs := imgCells vc x) 6 rfl (by kernel_rfl) rfl rfl (by kernel_rfl) b5 (img_one vc x) rfl ?_
        intro w142 d5 k5
        have hc1 := hc1.keepBlk b5 k5
        have hc2 := hc2.keepBlk b5 k5
        have b6 := b6.keep k5 (by simpa using hne.symm)
        have b5 := d5
        have hS := hS.trans k5 (fun y hy h => by simp at hy; omega)
        refine ⟨hS, ?_⟩
        clear k5 d5
        (simp only [Act.put, List.setIfInBounds_toArray, List.set_cons_zero, List.set_cons_succ])
        refine ah_store (vs := imgCells vw x) 7 rfl (by kernel_rfl) rfl rfl (by kernel_rfl) b6 (img_one vw x) rfl ?_
        intro w143 d5 k5
        have hc1 := hc1.keepBlk b6 k5
        have hc2 := hc2.keepBlk b6 k5
        have b5 := b5.keep k5 (by simpa using hne)
        have b6 := d5
        have hS := hS.trans k5 (fun y hy h => by simp at hy; omega)
        refine ⟨hS, ?_⟩
        clear k5 d5
        (simp only [Act.put, List.setIfInBounds_toArray, List.set_cons_zero, List.set_cons_succ])
        refine wpAnyH_done (by kernel_rfl) ?_ _
        have hfin : TwoCopies w1 x (.pointer (some ⟨V0.heap.size, 0, none⟩)) (.pointer (some ⟨w129.heap.size, 0, none⟩)) w143 := ⟨_, _, _, _, _, _, rfl, rfl, b5, b6, hc1, hc2, hun2, hB1, hS⟩
        have HFIN := Lib.hid hfin
        clear hfin hc1 hc2 b5 b6 hun2 hB1 hS
        go_wp2_with fail
        go_meet
        exact HFIN.out
    · refine oph_run (v := .pointer (some ⟨V0.heap.size, 0, none⟩)) (w' := V0.alloc (.cells #[.int .i64 0, .slice none 0 0, .slice none 0 0, .slice none 0 0] 26)) 5 rfl (by go_simp) (hS.alloc _) ?_
      (simp only [Act.put, List.setIfInBounds_toArray, List.set_cons_zero, List.set_cons_succ])
      have kA := (Keep.refl [] V0).alloc (.cells #[.int .i64 0, .slice none 0 0, .slice none 0 0, .slice none 0 0] 26)
      have hg6 := hS.size
      have b6 := Blk.new V0 26 #[.int .i64 0, .slice none 0 0, .slice none 0 0, .slice none 0 0]
      have hS := hS.then kA
      clear kA
      obtain ⟨w144, hW'⟩ : ∃ V, V0.alloc (.cells #[.int .i64 0, .slice none 0 0, .slice none 0 0, .slice none 0 0] 26) = V := ⟨_, rfl⟩
      rw [hW'] at b6 hS ⊢
      clear hW'
      refine ah_two 1 4 (by kernel_rfl) ?_ ?_
      · refine oph_call (vs := #[.agg il.toArray]) 1 rfl (by simp only [List.map_toArray, List.map_cons, List.map_nil]; rfl) Try.func12 (by kernel_rfl) (by kernel_rfl) (HCp _ hS).out ?_
        rintro e w145 ⟨vc, rfl, hc1, k1⟩
        have hB1 := hS.size
        have hun := hc1.under
        have b6 := b6.keep0 k1
        have hS := hS.then k1
        refine ⟨_, rfl, hS, ?_⟩
        clear k1
        (simp only [Act.put, List.setIfInBounds_toArray, List.set_cons_zero, List.set_cons_succ])
        refine ah_two 3 4 (by kernel_rfl) ?_ ?_
        · refine oph_call (vs := #[.agg il.toArray]) 3 rfl (by simp only [List.map_toArray, List.map_cons, List.map_nil]; rfl) Try.func12 (by kernel_rfl) (by kernel_rfl) (HCp _ hS).out ?_
          rintro e w146 ⟨vw, rfl, hc2, k3⟩
          have hun2 := hun
          have hc1 := hc1.keep0 k3
          have b6 := b6.keep0 k3
          clear hun
          have hS := hS.then k3
          refine ⟨_, rfl, hS, ?_⟩
          clear k3
          (simp only [Act.put, List.setIfInBounds_toArray, List.set_cons_zero, List.set_cons_succ])
          refine ah_one 4 (by kernel_rfl) ?_
          refine oph_run (v := .pointer (some ⟨w146.heap.size, 0, none⟩)) (w' := w146.alloc (.cells #[.int .i64 0, .slice none 0 0, .slice none 0 0, .slice none 0 0] 26)) 4 rfl (by go_simp) (hS.alloc _) ?_
          (simp only [Act.put, List.setIfInBounds_toArray, List.set_cons_zero, List.set_cons_succ])
          have kA := (Keep.refl [] w146).alloc (.cells #[.int .i64 0, .slice none 0 0, .slice none 0 0, .slice none 0 0] 26)
          have hne := (Nat.ne_of_lt b6.lt).symm
          have hg5 := hS.size
          have hc1 := hc1.keep0 kA
          have hc2 := hc2.keep0 kA
          have b6 := b6.keep0 kA
          have b5 := Blk.new w146 26 #[.int .i64 0, .slice none 0 0, .slice none 0 0, .slice none 0 0]
          have hS := hS.then kA
          clear kA
          obtain ⟨w147, hW'⟩ : ∃ V, w146.alloc (.cells #[.int .i64 0, .slice none 0 0, .slice none 0 0, .slice none 0 0] 26) = V := ⟨_, rfl⟩
          rw [hW'] at hc1 hc2 b5 b6 hS ⊢
          clear hW'
          refine ah_store (vs := imgCells vc x) 6 rfl (by kernel_rfl) rfl rfl (by kernel_rfl) b5 (img_one vc x) rfl ?_
          intro w148 d5 k5
          have hc1 := hc1.keepBlk b5 k5
          have hc2 := hc2.keepBlk b5 k5
          have b6 := b6.keep k5 (by simpa using hne.symm)
          have b5 := d5
          have hS := hS.trans k5 (fun y hy h => by simp at hy; omega)
          refine ⟨hS, ?_⟩
          clear k5 d5
          (simp only [Act.put, List.setIfInBounds_toArray, List.set_cons_zero, List.set_cons_succ])
          refine ah_store (vs := imgCells vw x) 7 rfl (by kernel_rfl) rfl rfl (by kernel_rfl) b6 (img_one vw x) rfl ?_
          intro w149 d5 k5
          have hc1 := hc1.keepBlk b6 k5
          have hc2 := hc2.keepBlk b6 k5
          have b5 := b5.keep k5 (by simpa using hne)
          have b6 := d5
          have hS := hS.trans k5 (fun y hy h => by simp at hy; omega)
          refine ⟨hS, ?_⟩
          clear k5 d5
          (simp only [Act.put, List.setIfInBounds_toArray, List.set_cons_zero, List.set_cons_succ])
          refine wpAnyH_done (by kernel_rfl) ?_ _
          have hfin : TwoCopies w1 x (.pointer (some ⟨w146.heap.size, 0, none⟩)) (.pointer (some ⟨V0.heap.size, 0, none⟩)) w149 := ⟨_, _, _, _, _, _, rfl, rfl, b5, b6, hc1, hc2, hun2, hB1, hS⟩
          have HFIN := Lib.hid hfin
          clear hfin hc1 hc2 b5 b6 hun2 hB1 hS
          go_wp2_with fail
          go_meet
          exact HFIN.out
        · refine oph_run (v := .pointer (some ⟨w145.heap.size, 0, none⟩)) (w' := w145.alloc (.cells #[.int .i64 0, .slice none 0 0, .slice none 0 0, .slice none 0 0] 26)) 4 rfl (by go_simp) (hS.alloc _) ?_
          (simp only [Act.put, List.setIfInBounds_toArray, List.set_cons_zero, List.set_cons_succ])
          have kA := (Keep.refl [] w145).alloc (.cells #[.int .i64 0, .slice none 0 0, .slice none 0 0, .slice none 0 0] 26)
          have hne := (Nat.ne_of_lt b6.lt).symm
          have hg5 := hS.size
          have hc1 := hc1.keep0 kA
          have hun := hun.mono kA.size
          have b6 := b6.keep0 kA
          have b5 := Blk.new w145 26 #[.int .i64 0, .slice none 0 0, .slice none 0 0, .slice none 0 0]
          have hS := hS.then kA
          clear kA
          obtain ⟨w150, hW'⟩ : ∃ V, w145.alloc (.cells #[.int .i64 0, .slice none 0 0, .slice none 0 0, .slice none 0 0] 26) = V := ⟨_, rfl⟩
          rw [hW'] at hc1 hun b5 b6 hS ⊢
          clear hW'
          refine ah_one 3 (by kernel_rfl) ?_
          refine oph_call (vs := #[.agg il.toArray]) 3 rfl (by simp only [List.map_toArray, List.map_cons, List.map_nil]; rfl) Try.func12 (by kernel_rfl) (by kernel_rfl) (HCp _ hS).out ?_
          rintro e w151 ⟨vw, rfl, hc2, k3⟩
          have hun2 := hun
          have hc1 := hc1.keep0 k3
          have b5 := b5.keep0 k3
          have b6 := b6.keep0 k3
          clear hun
          have hS := hS.then k3
          refine ⟨_, rfl, hS, ?_⟩
          clear k3
          (simp only [Act.put, List.setIfInBounds_toArray, List.set_cons_zero, List.set_cons_succ])
          refine ah_store (vs := imgCells vc x) 6 rfl (by kernel_rfl) rfl rfl (by kernel_rfl) b5 (img_one vc x) rfl ?_
          intro w152 d5 k5
          have hc1 := hc1.keepBlk b5 k5
          have hc2 := hc2.keepBlk b5 k5
          have b6 := b6.keep k5 (by simpa using hne.symm)
          have b5 := d5
          have hS := hS.trans k5 (fun y hy h => by simp at hy; omega)
          refine ⟨hS, ?_⟩
          clear k5 d5
          (simp only [Act.put, List.setIfInBounds_toArray, List.set_cons_zero, List.set_cons_succ])
          refine ah_store (vs := imgCells vw x) 7 rfl (by kernel_rfl) rfl rfl (by kernel_rfl) b6 (img_one vw x) rfl ?_
          intro w153 d5 k5
          have hc1 := hc1.keepBlk b6 k5
          have hc2 := hc2.keepBlk b6 k5
          have b5 := b5.keep k5 (by simpa using hne)
          have b6 := d5
          have hS := hS.trans k5 (fun y hy h => by simp at hy; omega)
          refine ⟨hS, ?_⟩
          clear k5 d5
          (simp only [Act.put, List.setIfInBounds_toArray, List.set_cons_zero, List.set_cons_succ])
          refine wpAnyH_done (by kernel_rfl) ?_ _
          have hfin : TwoCopies w1 x (.pointer (some ⟨w145.heap.size, 0, none⟩)) (.pointer (some ⟨V0.heap.size, 0, none⟩)) w153 := ⟨_, _, _, _, _, _, rfl, rfl, b5, b6, hc1, hc2, hun2, hB1, hS⟩
          have HFIN := Lib.hid hfin
          clear hfin hc1 hc2 b5 b6 hun2 hB1 hS
          go_wp2_with fail
          go_meet
          exact HFIN.out
      · refine oph_run (v := .pointer (some ⟨w144.heap.size, 0, none⟩)) (w' := w144.alloc (.cells #[.int .i64 0, .slice none 0 0, .slice none 0 0, .slice none 0 0] 26)) 4 rfl (by go_simp) (hS.alloc _) ?_
        (simp only [Act.put, List.setIfInBounds_toArray, List.set_cons_zero, List.set_cons_succ])
        have kA := (Keep.refl [] w144).alloc (.cells #[.int .i64 0, .slice none 0 0, .slice none 0 0, .slice none 0 0] 26)
        have hne := (Nat.ne_of_lt b6.lt).symm
        have hg5 := hS.size
        have b6 := b6.keep0 kA
        have b5 := Blk.new w144 26 #[.int .i64 0, .slice none 0 0, .slice none 0 0, .slice none 0 0]
        have hS := hS.then kA
        clear kA
        obtain ⟨w154, hW'⟩ : ∃ V, w144.alloc (.cells #[.int .i64 0, .slice none 0 0, .slice none 0 0, .slice none 0 0] 26) = V := ⟨_, rfl⟩
        rw [hW'] at b5 b6 hS ⊢
        clear hW'
        refine ah_one 1 (by kernel_rfl) ?_
        refine oph_call (vs := #[.agg il.toArray]) 1 rfl (by simp only [List.map_toArray, List.map_cons, List.map_nil]; rfl) Try.func12 (by kernel_rfl) (by kernel_rfl) (HCp _ hS).out ?_
        rintro e w155 ⟨vc, rfl, hc1, k1⟩
        have hB1 := hS.size
        have hun := hc1.under
        have b5 := b5.keep0 k1
        have b6 := b6.keep0 k1
        have hS := hS.then k1
        refine ⟨_, rfl, hS, ?_⟩
        clear k1
        (simp only [Act.put, List.setIfInBounds_toArray, List.set_cons_zero, List.set_cons_succ])
        refine ah_one 3 (by kernel_rfl) ?_
        refine oph_call (vs := #[.agg il.toArray]) 3 rfl (by simp only [List.map_toArray, List.map_cons, List.map_nil]; rfl) Try.func12 (by kernel_rfl) (by kernel_rfl) (HCp _ hS).out ?_
        rintro e w156 ⟨vw, rfl, hc2, k3⟩
        have hun2 := hun
        have hc1 := hc1.keep0 k3
        have b5 := b5.keep0 k3
        have b6 := b6.keep0 k3
        clear hun
        have hS := hS.then k3
        refine ⟨_, rfl, hS, ?_⟩
        clear k3
        (simp only [Act.put, List.setIfInBounds_toArray, List.set_cons_zero, List.set_cons_succ])
        refine ah_store (vs := imgCells vc x) 6 rfl (by kernel_rfl) rfl rfl (by kernel_rfl) b5 (img_one vc x) rfl ?_
        intro w157 d5 k5
        have hc1 := hc1.keepBlk b5 k5
        have hc2 := hc2.keepBlk b5 k5
        have b6 := b6.keep k5 (by simpa using hne.symm)
        have b5 := d5
        have hS := hS.trans k5 (fun y hy h => by simp at hy; omega)
        refine ⟨hS, ?_⟩
        clear k5 d5
        (simp only [Act.put, List.setIfInBounds_toArray, List.set_cons_zero, List.set_cons_succ])
        refine ah_store (vs := imgCells vw x) 7 rfl (by kernel_rfl) rfl rfl (by kernel_rfl) b6 (img_one vw x) rfl ?_
        intro w158 d5 k5
        have hc1 := hc1.keepBlk b6 k5
        have hc2 := hc2.keepBlk b6 k5
        have b5 := b5.keep k5 (by simpa using hne)
        have b6 := d5
        have hS := hS.trans k5 (fun y hy h => by simp at hy; omega)
        refine ⟨hS, ?_⟩
        clear k5 d5
        (simp only [Act.put, List.setIfInBounds_toArray, List.set_cons_zero, List.set_cons_succ])
        refine wpAnyH_done (by kernel_rfl) ?_ _
        have hfin : TwoCopies w1 x (.pointer (some ⟨w144.heap.size, 0, none⟩)) (.pointer (some ⟨V0.heap.size, 0, none⟩)) w158 := ⟨_, _, _, _, _, _, rfl, rfl, b5, b6, hc1, hc2, hun2, hB1, hS⟩
        have HFIN := Lib.hid hfin
        clear hfin hc1 hc2 b5 b6 hun2 hB1 hS
        go_wp2_with fail
        go_meet
        exact HFIN.out
    -- END 1
  case rest =>
    obtain ⟨B1, B2, g5, g6, vc, vw, rfl, rfl, b5, b6, hc1, hc2, hun, hB1, hkx⟩ := hcut
    have KX := Lib.hid (K2.out.then hkx)
    have kx' := Lib.hid (k2'.out.then hkx)
    have HMB : Hid (MutB B1 B2 w1 vc x) := ⟨hB1, hun, hc1.ql⟩
    have hvc : Hid (imgCells vc x = [.int .i64 x.res, .slice vc.ta x.tasks.length vc.tc, .slice vc.ma x.modes.length vc.mc, .slice vc.ea x.edges.length vc.ec]) := show _ = _ from rfl
    have HM0 : Hid (Mut B1 B2 g5 g6 w1 vc vw x wc) := ⟨⟨x.tasks, rfl, hc1.ok.lon, hc1.tasks⟩, ⟨x.edges, rfl, fun e he => ⟨hc1.ok.offs e he, hc1.ok.mp e he⟩, hc1.edges⟩, ⟨x.modes, rfl, hc1.ok.set, hc1.modes⟩, fun i a b => ⟨x.modes[i].qs, rfl, hc1.queues i a b⟩, b5, b6, hc2, hkx⟩
    have HC1 := Lib.hid hc1.img
    have HB5 := Lib.hid b5
    have HLC : Hid ((imgCells vc x).length = 4) := show _ = _ from rfl
    have HLW : Hid ((imgCells vw x).length = 4) := show _ = _ from rfl
    have HRc1 := fun W (hk : Keep [] wc W) => Lib.hid ((HRc W (KX.out.then hk) vc (HC1.out.keep0 hk)).out)
    have HSm1 := fun W (hk : Keep [] wc W) => Lib.hid ((HSm W (KX.out.then hk)).out)
    have HRm1 := fun W (hk : Keep [] wc W) => Lib.hid ((HRm W (KX.out.then hk)).out)
    have hc5 : Hid (∀ W, Keep [] wc W → CellsAt W g5 0 (imgCells vc x)) := fun W hk => (HB5.out.keep0 hk).cellsAt
    have hcx1 : Hid (∀ W, Keep [] wc W → CellsAt W w.heap.size 0 il) := fun W hk => hcx.out W (kx'.out.then hk)
    have hcy1 : Hid (∀ W, Keep [] wc W → CellsAt W (w.heap.size + 1) 0 il') := fun W hk => hcy.out W (kx'.out.then hk)
    clear hc1 hc2 hun hB1 hkx b5 b6 HRc HSm HRm
    obtain ⟨ci, hci⟩ : ∃ ci, ci = imgCells vc x := ⟨_, rfl⟩
    rw [← hci] at HRc1 hc5 HLC
    clear hci
    go_wp2
    refine wp_region_flow (Keep [] wc) rfl (by kernel_rfl) (Keep.refl _ _).drew ?_
    refine fl_agg 26 (.tmp 5) ci rfl rfl rfl (by rw [HLC.out]; exact agg_image) (fun w' hw => hc5.out w' hw) ?_
    simp only [Act.put, List.setIfInBounds_toArray, List.set_cons_zero, List.set_cons_succ]
    refine fl_agg 26 (.tmp 2) il rfl rfl rfl (by rw [HIL.out]; exact agg_image) (fun w' hw => hcx1.out w' hw) ?_
    simp only [Act.put, List.setIfInBounds_toArray, List.set_cons_zero, List.set_cons_succ]
    refine fl_call (f := 13) (v := .bool true) (by rfl) rfl (by simp only [List.map_toArray, List.map_cons, List.map_nil]; rfl) Try.func13 (by kernel_rfl) (by kernel_rfl) (fun w' hS => ((HRc1 w' hS).out.mono (fun e w'' h => ⟨h.1.trans (by rw [hdxx.out]), hS.then h.2⟩))) ?_; simp only [Act.put, List.setIfInBounds_toArray, List.set_cons_zero, List.set_cons_succ]
    repeat (refine fl_val (v := ?_) (by rfl) ?_ ?_; rotate_left; (intro w' hS; go_simp; with_reducible rfl); simp only [Act.put, List.setIfInBounds_toArray, List.set_cons_zero, List.set_cons_succ])
    refine fl_agg 26 (.tmp 2) il rfl rfl rfl (by rw [HIL.out]; exact agg_image) (fun w' hw => hcx1.out w' hw) ?_
    simp only [Act.put, List.setIfInBounds_toArray, List.set_cons_zero, List.set_cons_succ]
    refine fl_agg 26 (.tmp 3) il' rfl rfl rfl (by rw [HIL'.out]; exact agg_image) (fun w' hw => hcy1.out w' hw) ?_
    simp only [Act.put, List.setIfInBounds_toArray, List.set_cons_zero, List.set_cons_succ]
    refine fl_call (f := 14) (v := .bool bb) (by rfl) rfl (by simp only [List.map_toArray, List.map_cons, List.map_nil]; rfl) Try.func14 (by kernel_rfl) (by kernel_rfl) (fun w' hS => ((HSm1 w' hS).out.mono (fun e w'' h => ⟨h.1, hS.then h.2⟩))) ?_; simp only [Act.put, List.setIfInBounds_toArray, List.set_cons_zero, List.set_cons_succ]
    refine fl_agg 26 (.tmp 2) il rfl rfl rfl (by rw [HIL.out]; exact agg_image) (fun w' hw => hcx1.out w' hw) ?_
    simp only [Act.put, List.setIfInBounds_toArray, List.set_cons_zero, List.set_cons_succ]
    refine fl_agg 26 (.tmp 3) il' rfl rfl rfl (by rw [HIL'.out]; exact agg_image) (fun w' hw => hcy1.out w' hw) ?_
    simp only [Act.put, List.setIfInBounds_toArray, List.set_cons_zero, List.set_cons_succ]
    refine fl_call (f := 13) (v := .bool bb) (by rfl) rfl (by simp only [List.map_toArray, List.map_cons, List.map_nil]; rfl) Try.func13 (by kernel_rfl) (by kernel_rfl) (fun w' hS => ((HRm1 w' hS).out.mono (fun e w'' h => ⟨h.1, hS.then h.2⟩))) ?_; simp only [Act.put, List.setIfInBounds_toArray, List.set_cons_zero, List.set_cons_succ]
    repeat (refine fl_val (v := ?_) (by rfl) ?_ ?_; rotate_left; (intro w' hS; go_simp; with_reducible rfl); simp only [Act.put, List.setIfInBounds_toArray, List.set_cons_zero, List.set_cons_succ])
    refine fl_nil ?_
    intro w2 hS
    have HM2 := Lib.hid (HM0.out.later hS)
    clear HM0 HRc1 HSm1 HRm1 hc5 hcx1 hcy1 hS HC1 HB5
    have hbc : ∀ W, Mut B1 B2 g5 g6 w1 vc vw x W → W.cell? ⟨g5, 1, none⟩ = some (.slice vc.ta x.tasks.length vc.tc) ∧ W.cell? ⟨g5, 2, none⟩ = some (.slice vc.ma x.modes.length vc.mc) ∧ W.cell? ⟨g5, 3, none⟩ = some (.slice vc.ea x.edges.length vc.ec) := fun W hM =>
      ⟨hM.bc.at_ rfl, hM.bc.at_ rfl, hM.bc.at_ rfl⟩
    have HBC := Lib.hid hbc
    clear hbc
    obtain ⟨f1, f2, f3⟩ := HBC.out _ HM2.out
    go_wp2
    go_loopw [7] (fun i wr => ∃ k : Nat, k ≤ x.tasks.length ∧ i = .int .i64 k ∧ Mut B1 B2 g5 g6 w1 vc vw x wr) (fun i _ => x.tasks.length - (intOf i).toNat)
    case atStart => exact ⟨0, Nat.zero_le _, rfl, HM2.out⟩
    case round =>
      clear f1 f2 f3 HM2
      obtain ⟨k, hk, rfl, hM⟩ := hrel
      have HM := Lib.hid hM
      clear hM
      obtain ⟨f1, f2, f3⟩ := HBC.out _ HM.out
      by_cases hlk : k < x.tasks.length
      · obtain ⟨ts, _, _, t3⟩ := HM.out.tasks
        obtain ⟨gt, hgt, _, _⟩ := own_addr t3 (by omega)
        clear t3
        obtain ⟨⟨z, hz⟩, hfz, hset⟩ := HM.out.task HMB.out hgt hlk
        rw [hgt] at f1
        have HS := Lib.hid hset
        clear hset f2 f3 hgt
        go_wp2
        go_roundw
        case rel => exact ⟨k + 1, by omega, by go_num, HS.out _⟩
        case measure => simp [intOf] <;> omega
      · obtain ⟨we, hwe⟩ : ∃ we : World, we = wr := ⟨_, rfl⟩
        subst hwe
        clear f2
        go_wp2
        go_loopw [8] (fun i wr => ∃ k : Nat, k ≤ x.edges.length ∧ i = .int .i64 k ∧ Mut B1 B2 g5 g6 w1 vc vw x wr) (fun i _ => x.edges.length - (intOf i).toNat)
        case atStart => exact ⟨0, Nat.zero_le _, rfl, HM.out⟩
        case round =>
          clear f1 f3 HM
          obtain ⟨k, hk, rfl, hM⟩ := hrel
          have HM := Lib.hid hM
          clear hM
          obtain ⟨f1, f2, f3⟩ := HBC.out _ HM.out
          by_cases hlk : k < x.edges.length
          · obtain ⟨es, _, _, t3⟩ := HM.out.edges
            obtain ⟨gt, hgt, _, _⟩ := own_addr t3 (by omega)
            clear t3
            obtain ⟨⟨z, hz⟩, hfz, hset⟩ := HM.out.edge HMB.out hgt hlk
            rw [hgt] at f3
            have HS := Lib.hid hset
            clear hset f1 f2 hgt
            go_wp2
            go_roundw
            case rel => exact ⟨k + 1, by omega, by go_num, HS.out _⟩
            case measure => simp [intOf] <;> omega
          · obtain ⟨wf, hwf⟩ : ∃ wf : World, wf = wr := ⟨_, rfl⟩
            subst hwf
            clear f1
            go_wp2
            go_loopw [9] (fun i wr => ∃ k : Nat, k ≤ x.modes.length ∧ i = .int .i64 k ∧ Mut B1 B2 g5 g6 w1 vc vw x wr) (fun i _ => x.modes.length - (intOf i).toNat)
            case atStart => exact ⟨0, Nat.zero_le _, rfl, HM.out⟩
            case round =>
              clear f2 f3 HM
              obtain ⟨k, hk, rfl, hM⟩ := hrel
              have HM := Lib.hid hM
              clear hM
              obtain ⟨f1, f2, f3⟩ := HBC.out _ HM.out
              by_cases hlk : k < x.modes.length
              · have hlq : k < vc.qa.length := by have := HMB.out.ql; omega
                obtain ⟨ms, _, _, t3⟩ := HM.out.modes
                obtain ⟨gm, hgm, _, _⟩ := own_addr t3 (by omega)
                clear t3
                obtain ⟨⟨z, hz, hc0⟩, hc1, hfz, hset⟩ := HM.out.mode HMB.out hgm hlk hlq
                have hx : bits .xor .u32 (z : Int) 1 = ((z ^^^ 1 : Nat) : Int) := by have := u32_xor_nat z 1 hz (by decide); simpa using this
                have hx2 : z ^^^ 1 < 4294967296 := Nat.xor_lt_two_pow (n := 32) hz (by decide)
                have HM3 := Lib.hid (hset _ hx2)
                rw [hgm] at f2
                have HGM := Lib.hid hgm
                clear hset f1 f3 hgm hc1
                go_wp2
                have hq20 := hqq.out _ (List.getElem_mem hlk)
                obtain ⟨nq, hnq⟩ : ∃ nq, nq = x.modes[k].qs.length := ⟨_, rfl⟩
                have HNQ := Lib.hid hnq
                rw [← hnq] at hq20
                clear hnq f2 hc0 hfz hx hx2
                go_loopw [10] (fun i wr => ∃ j : Nat, j ≤ nq ∧ i = .int .i64 j ∧ Mut B1 B2 g5 g6 w1 vc vw x wr) (fun i _ => nq - (intOf i).toNat)
                case atStart => exact ⟨0, Nat.zero_le _, rfl, HM3.out⟩
                case round =>
                  clear HM HM3
                  obtain ⟨j, hj, rfl, hM⟩ := hrel
                  have HM := Lib.hid hM
                  clear hM
                  obtain ⟨f1, f2, f3⟩ := HBC.out _ HM.out
                  obtain ⟨_, hc1, _, _⟩ := HM.out.mode HMB.out HGM.out hlk hlq
                  rw [HGM.out] at f2
                  rw [← HNQ.out] at hc1
                  clear f1 f3
                  by_cases hlj : j < nq
                  · obtain ⟨qs, q1, q2⟩ := HM.out.queues k hlk hlq
                    obtain ⟨gq, hgq, _, _⟩ := own_addr q2 (by rw [← HNQ.out]; omega)
                    clear q1 q2
                    obtain ⟨⟨z2, hz2⟩, hfz2, hset2⟩ := HM.out.queue HMB.out hlk hlq hgq (k := j) (by rw [← HNQ.out]; exact hlj)
                    rw [hgq] at hc1
                    have HS := Lib.hid hset2
                    clear hset2 hgq
                    go_wp2
                    go_roundw
                    case rel => exact ⟨j + 1, by omega, by go_num, HS.out _⟩
                    case measure => simp [intOf] <;> omega
                  · go_wp2
                    go_roundw
                    case rel => exact ⟨k + 1, by omega, by go_num, HM.out⟩
                    case measure => simp [intOf] <;> omega
              · have HW := Lib.hid HM.out.was.img
                have HB6 := Lib.hid HM.out.bw
                have HKF := Lib.hid HM.out.keep
                have KF := Lib.hid (K2.out.then HKF.out)
                have kf0 := Lib.hid (k2'.out.then HKF.out)
                have HRw1 := fun W (hk : Keep [] wr W) => Lib.hid ((HRw W (KF.out.then hk) vw (HW.out.keep0 hk)).out)
                have HSw1 := fun W (hk : Keep [] wr W) => Lib.hid ((HSw W (KF.out.then hk) vw (HW.out.keep0 hk)).out)
                have hcx2 : Hid (∀ W, Keep [] wr W → CellsAt W w.heap.size 0 il) := fun W hk => hcx.out W (kf0.out.then hk)
                have hcw2 : Hid (∀ W, Keep [] wr W → CellsAt W g6 0 (imgCells vw x)) := fun W hk => (HB6.out.keep0 hk).cellsAt
                clear HBC HMB HM HRw HSw HB6 HKF kf0 f1 f3 hcx
                generalize imgCells vw x = wi at *
                go_wp2_with (first
                  | (refine wpList_agg_g rfl 26 (.tmp 2) rfl rfl (cs := il) (by rw [HIL.out]; exact agg_image) (hcx2.out _ (Keep.refl _ _)) ?_)
                  | (refine wpList_agg_g rfl 26 (.tmp 6) rfl rfl (cs := wi) (by rw [HLW.out]; exact agg_image) (hcw2.out _ (Keep.refl _ _)) ?_))
                refine (HRw1 _ (Keep.refl _ _)).out.mono ?_
                rintro e w7 ⟨rfl, k7⟩
                rw [hdxx.out]
                have K7 := Lib.hid k7
                clear k7
                go_wp2_with (first
                  | (refine wpList_agg_g rfl 26 (.tmp 2) rfl rfl (cs := il) (by rw [HIL.out]; exact agg_image) (hcx2.out _ K7.out) ?_)
                  | (refine wpList_agg_g rfl 26 (.tmp 6) rfl rfl (cs := wi) (by rw [HLW.out]; exact agg_image) (hcw2.out _ K7.out) ?_))
                refine (HSw1 _ K7.out).out.mono ?_
                rintro e w8 ⟨rfl, k8⟩
                rw [hdxx.out]
                have K8 := Lib.hid (KF.out.then (K7.out.then k8))
                clear k8
                go_wp2_with fail
                refine (alive10 _).mono ?_
                rintro e w9 ⟨rfl, k9⟩
                have K9 := Lib.hid (K8.out.then k9)
                clear k9
                go_wp2
                go_ret
                exact ⟨rfl, K9.out⟩
end Go.Proofs.Ytajlkfhekligeaa
