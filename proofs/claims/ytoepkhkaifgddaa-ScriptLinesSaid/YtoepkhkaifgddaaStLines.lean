/- The statement ScriptLines, walked for any step and any line. No condition. -/
import Derived.Test.YtoepkhkaifgddaaStRRead
import Derived.Test.YtoepkhkaifgddaaStRLineW
import Derived.Test.YtoepkhkaifgddaaStGreat
import Derived.Test.YtoepkhkaifgddaaStRSame
namespace Go.Proofs.Ytoepkhkaifgddaa
open Go.RowKit

theorem exec_eqs {ev : Operand → Value} {x y : Operand} {l : List UInt8} {dst : Option Tmp} {ty : TypeId} {pos : String} {after : Array Edge} {gd : Option (Nat × Bool)} (hx : ev x = strOf l) (hy : ev y = strOf l) (w : World) :
    (execOp ev ⟨dst, .binOp .eql 9 x y 9, ty, pos, after, gd⟩).run Try.prog w = .ok (.value (.bool true)) w := by
  unfold strOf at hx hy
  simp [execOp, hx, hy, go_sem]
theorem own_one {W : World} {b : Nat} {st : Stp} {vs vw : Value} (hs : W.ownsRow b 85 3 vs st.secs.length (st.secs.flatMap sctCells)) (hw : W.ownsRow b 77 1 vw st.words.length (u32s st.words)) : ∀ y, y ∈ ownCells st vs vw → y.oneCell' = true := by
  obtain ⟨A1, c1, e1⟩ := own_shape hs
  obtain ⟨A2, c2, e2⟩ := own_shape hw
  intro y hy
  simp [ownCells, e1, e2] at hy
  rcases hy with rfl | rfl | rfl | rfl | rfl <;> rfl
theorem ap_two34 {P : Program} {md : Region.Mode} {ops : Array Oper} {Q : Exit → Act → World → Prop} {p : Nat} {S : World → Prop} {fuel : Nat} {listed : Array Bool} {a : Act} {w : World} (i j : Nat) (hr : Region.ready md ops listed = [i, j]) (h1 : wpOp P ops Q i (fun a' w' => ((listed.setIfInBounds i true).getD p true = false → S w') ∧ wpAnyP P md ops Q p S fuel (listed.setIfInBounds i true) a' w') a w)
    (h2 : wpOp P ops Q j (fun a' w' => ((listed.setIfInBounds j true).getD p true = false → S w') ∧ wpAnyP P md ops Q p S fuel (listed.setIfInBounds j true) a' w') a w) :
    wpAnyP P md ops Q p S (fuel + 1) listed a w :=
  ⟨fun h0 => (by rw [hr] at h0; cases h0), fun q hq => by
    rw [hr] at hq
    simp at hq
    rcases hq with rfl | rfl
    · exact h1
    · exact h2⟩
/-- One step in a block of its own, as a row. -/
theorem stepsAt_one {W : World} {b : Nat} {m : Stp × StpV} (hb : Blk W b 45 (stpCells m).toArray) (h : StepAt W m.2 m.1) : StepsAt W (some ⟨b, 0, none⟩) [m] :=
  ⟨Reads.of_cells (by decide) (by simp [stpCells]) (fun j u hu => by rw [add_of_block, hb.cell]; simpa using hu), fun x hx => by simp at hx; subst hx; exact h, by simp [maxLen]⟩
theorem OwnCells.step {W : World} {b : Nat} {st : Stp} {vs vw : Value} (hs : W.ownsRow b 85 3 vs st.secs.length (st.secs.flatMap sctCells)) (hw : W.ownsRow b 77 1 vw st.words.length (u32s st.words)) (hz : st.secs.length ≤ maxLen ∧ st.words.length ≤ maxLen) (ho : WordsOk st) :
    ∃ v : StpV, ownCells st vs vw = stpCells (st, v) ∧ StepAt W v st := by
  obtain ⟨sa, sc, rfl⟩ := own_shape hs
  obtain ⟨wa, wc, rfl⟩ := own_shape hw
  exact ⟨⟨sa, sc, wa, wc⟩, rfl, Reads.of_own hs, Reads.of_own hw, ho, hz.1, hz.2⟩

set_option maxRecDepth 100000 in
set_option maxHeartbeats 16000000 in
theorem lines34_any (m : Stp × StpV) (s1 : ByteArray) (w : World) (h : StepAt w m.2 m.1) :
    Calls Try.prog 7 #[.agg #[.int .i64 m.1.kind, .int .i64 m.1.a, .int .i64 m.1.n, .slice m.2.sa m.1.secs.length m.2.sc, .slice m.2.wa m.1.words.length m.2.wc], .string s1] w fun e w' => e = .returned (.bool true) ∧ Keep [] w w' := by
  obtain ⟨s, v⟩ := m
  dsimp only at *
  have hb0 := Blk.new w 45 (stpCells (s, v)).toArray
  have hk0 := (Keep.refl [] w).alloc (.cells (stpCells (s, v)).toArray 45)
  obtain ⟨W1, hW1⟩ : ∃ W1, w.alloc (.cells #[.int .i64 s.kind, .int .i64 s.a, .int .i64 s.n, .slice v.sa s.secs.length v.sc, .slice v.wa s.words.length v.wc] 45) = W1 := ⟨_, rfl⟩
  rw [show (stpCells (s, v)).toArray = #[.int .i64 s.kind, .int .i64 s.a, .int .i64 s.n, .slice v.sa s.secs.length v.sc, .slice v.wa s.words.length v.wc] from rfl, hW1] at hb0 hk0
  by_cases hbig : 5000 < s1.size
  · have hq : decide ((5000 : Int) < (s1.size : Int)) = true := decide_eq_true (by omega)
    have HK0 := Lib.hid hk0
    clear hbig hb0 hk0
    go_enter Try.func7, Try.ntmps7
    go_wp2
    go_ret
    exact ⟨rfl, HK0.out⟩
  · have hq : decide ((5000 : Int) < (s1.size : Int)) = false := decide_eq_false (by omega)
    obtain ⟨W2, hW2⟩ : ∃ W2, W1.alloc (.cells #[.int .i64 s.kind, .int .i64 s.a, .int .i64 s.n, .slice v.sa s.secs.length v.sc, .slice v.wa s.words.length v.wc] 45) = W2 := ⟨_, rfl⟩
    have hb2 : Blk W2 W1.heap.size 45 (stpCells (s, v)).toArray := by rw [← hW2]; exact Blk.new _ _ _
    have hk12 : Keep [] W1 W2 := by rw [← hW2]; exact (Keep.refl _ _).alloc _
    have HG := Lib.hid (stgreat_any (some ⟨W1.heap.size, 0, none⟩) 1 [(s, v)] W2 (stepsAt_one hb2 (h.keep0 (hk0.then hk12))))
    have hgo := greatS_ok (l := stps [(s, v)])
    rw [show ([(s, v)] : List (Stp × StpV)).length = 1 from rfl] at HG
    generalize greatS (stps [(s, v)]) = gr at *
    have hs5 : s1.size ≤ 1000000 := by omega
    obtain ⟨f0, f1, f2, f3, f4⟩ : (W1.cell? ⟨w.heap.size, 0, none⟩ = some (.int .i64 s.kind) ∧ W1.cell? ⟨w.heap.size, 1, none⟩ = some (.int .i64 s.a) ∧ W1.cell? ⟨w.heap.size, 2, none⟩ = some (.int .i64 s.n) ∧ W1.cell? ⟨w.heap.size, 3, none⟩ = some (.slice v.sa s.secs.length v.sc) ∧ W1.cell? ⟨w.heap.size, 4, none⟩ = some (.slice v.wa s.words.length v.wc)) := ⟨hb0.cell 0, hb0.cell 1, hb0.cell 2, hb0.cell 3, hb0.cell 4⟩
    have HB0 := Lib.hid hb0
    have HK0 := Lib.hid hk0
    have HK12 := Lib.hid hk12
    have HST := Lib.hid h
    clear hb0 hk0 hk12 hb2 h hbig
    go_enter Try.func7, Try.ntmps7
    go_wp2_with fail
    refine HG.out.mono ?_
    rintro e w3 ⟨rfl, k3⟩
    have HK3 := Lib.hid ((HK0.out.then HK12.out).then k3)
    have HK13 := Lib.hid (HK12.out.then k3)
    clear k3 hW1 hW2 f0 f1 f2 f3 f4
    cases gr
    · have hgr := hgo rfl
      have hgs := hgr.2 s (by simp [stps])
      clear hgo hgr
      have HR := fun W => Lib.hid (sread_any s1 W hs5)
      have HRR := fun W => Lib.hid (rrd_any s1 W hs5)
      have hok := readS_ok s1
      rw [← readS_eq] at HRR
      generalize readS s1 = r at *
      obtain ⟨r1, r2⟩ := r
      dsimp only at hok
      go_wp2_with (first
        | (refine (HR _).out.mono ?_; rintro e w4 ⟨vs, vw, rfl, hs4, hw4, k4⟩)
        | (refine stop_store 45 (.tmp 5) (.tmp 20) rfl ?_))
      constructor
      refine wpList_store_all rfl 45 (.tmp 5) (.tmp 20) rfl rfl rfl (vs := ownCells r1 vs vw) agg_step.2 (Blk.new _ _ _) (own_one hs4 hw4) rfl ?_
      intro w5 d5 k5
      have kr5 : Keep [] w4 w5 := ((Keep.refl [] w4).alloc _).trans k5 (fun y hy h => by simp at hy h; omega)
      have HD5 := Lib.hid d5
      have HK45 := Lib.hid kr5
      have HK35 := Lib.hid (k4.then kr5)
      have HS4 := Lib.hid hs4
      have HW4 := Lib.hid hw4
      clear k4 k5 kr5 d5 hs4 hw4 HR
      have hg5 := HD5.out.lt
      go_wp2_with (first
        | (refine (HRR _).out.mono ?_; rintro e w6 ⟨st, vs2, vw2, rfl, hst, hs6, hw6, k6⟩)
        | (refine stop_store 45 (.tmp 7) (.tmp 25) rfl ?_))
      constructor
      refine wpList_store_all rfl 45 (.tmp 7) (.tmp 25) rfl rfl rfl (vs := ownCells st vs2 vw2) agg_step.2 (Blk.new _ _ _) (own_one hs6 hw6) rfl ?_
      intro w7 d7 k7
      have kr7 : Keep [] w6 w7 := ((Keep.refl [] w6).alloc _).trans k7 (fun y hy h => by simp at hy h; omega)
      have HD7 := Lib.hid d7
      have HK67 := Lib.hid kr7
      have HK57 := Lib.hid (k6.then kr7)
      have HS6 := Lib.hid hs6
      have HW6 := Lib.hid hw6
      clear k6 k7 kr7 d7 hs6 hw6 HRR
      have HK17 : Hid (Keep [] W1 w7) := (HK13.out.then HK35.out).then HK57.out
      have HC0 : ∀ W, Keep [] w7 W → CellsAt W w.heap.size 0 (stpCells (s, v)) := fun W k => ((HB0.out.keep0 HK17.out).keep0 k).cellsAt
      have HAt : ∀ W, Keep [] w7 W → StepAt W v s := fun W k => ((HST.out.keep0 HK0.out).keep0 HK17.out).keep0 k
      have HRt := fun W k => Lib.hid (right_any s v W (HAt W k))
      have HRr := fun W k => Lib.hid (rright_any s v W (HAt W k))
      have HLn := fun W k => Lib.hid (line_any s v W (HAt W k) (by omega) (by omega))
      have HLr := fun W k => Lib.hid (rline_any s v W (HAt W k) (by omega) (by omega))
      have HAl := fun W => Lib.hid (alive34_any W)
      generalize rightP s = rr at *
      generalize lineT s = ll at *
      have HRet : Hid (Keep [] w w7) := HK3.out.then (HK35.out.then HK57.out)
      cases r2
      · skip
        go_upto_region 5 with fail
        refine ap_begin 31 (Keep [] w7) (by kernel_rfl) (Keep.refl _ _).drew (fun hS hPan => ?_) (fun _ _ d _ _ h => by cases d <;> exact h)
        refine ap_agg 0 45 (.tmp 2) ([.int .i64 s.kind, .int .i64 s.a, .int .i64 s.n, .slice v.sa s.secs.length v.sc, .slice v.wa s.words.length v.wc]) rfl (by kernel_rfl) (by kernel_rfl) (by kernel_rfl) (by kernel_rfl) (by rfl) hPan rfl rfl agg_step HC0 hS ?_
        (simp only [Act.put, List.setIfInBounds_toArray, List.set_cons_zero, List.set_cons_succ])
        refine ap_agg 2 45 (.tmp 2) ([.int .i64 s.kind, .int .i64 s.a, .int .i64 s.n, .slice v.sa s.secs.length v.sc, .slice v.wa s.words.length v.wc]) rfl (by kernel_rfl) (by kernel_rfl) (by kernel_rfl) (by kernel_rfl) (by rfl) hPan rfl rfl agg_step HC0 hS ?_
        (simp only [Act.put, List.setIfInBounds_toArray, List.set_cons_zero, List.set_cons_succ])
        refine ap_one 1 (by kernel_rfl) ?_
        refine op_call (f := 24) 1 rfl (by rfl) rfl (by simp only [List.map_toArray, List.map_cons, List.map_nil]; rfl) Try.func24 (by kernel_rfl) (by kernel_rfl) (HRt _ hS).out ?_
        rintro e wn ⟨rfl, kn⟩
        have hS2 := hS.then kn
        refine ⟨_, rfl, fun _ => hS2, ?_⟩
        clear hS
        have hS := hS2
        clear hS2 kn
        (simp only [Act.put, List.setIfInBounds_toArray, List.set_cons_zero, List.set_cons_succ])
        refine ap_one 3 (by kernel_rfl) ?_
        refine op_call (f := 25) 3 rfl (by rfl) rfl (by simp only [List.map_toArray, List.map_cons, List.map_nil]; rfl) Try.func25 (by kernel_rfl) (by kernel_rfl) (HRr _ hS).out ?_
        rintro e wn ⟨rfl, kn⟩
        have hS2 := hS.then kn
        refine ⟨_, rfl, fun _ => hS2, ?_⟩
        clear hS
        have hS := hS2
        clear hS2 kn
        (simp only [Act.put, List.setIfInBounds_toArray, List.set_cons_zero, List.set_cons_succ])
        (refine ap_val (v := ?_) 4 rfl (by kernel_rfl) (by kernel_rfl) (by kernel_rfl) (by kernel_rfl) (by rfl) hPan ?_ hS ?_; rotate_left; (intro w' hSw; go_simp; try with_reducible rfl); simp only [Act.put, List.setIfInBounds_toArray, List.set_cons_zero, List.set_cons_succ])
        (refine ap_val (v := ?_) 5 rfl (by kernel_rfl) (by kernel_rfl) (by kernel_rfl) (by kernel_rfl) (by rfl) hPan ?_ hS ?_; rotate_left; (intro w' hSw; go_simp; try with_reducible rfl); simp only [Act.put, List.setIfInBounds_toArray, List.set_cons_zero, List.set_cons_succ])
        refine ap_agg 6 45 (.tmp 2) ([.int .i64 s.kind, .int .i64 s.a, .int .i64 s.n, .slice v.sa s.secs.length v.sc, .slice v.wa s.words.length v.wc]) rfl (by kernel_rfl) (by kernel_rfl) (by kernel_rfl) (by kernel_rfl) (by rfl) hPan rfl rfl agg_step HC0 hS ?_
        (simp only [Act.put, List.setIfInBounds_toArray, List.set_cons_zero, List.set_cons_succ])
        refine ap_agg 8 45 (.tmp 2) ([.int .i64 s.kind, .int .i64 s.a, .int .i64 s.n, .slice v.sa s.secs.length v.sc, .slice v.wa s.words.length v.wc]) rfl (by kernel_rfl) (by kernel_rfl) (by kernel_rfl) (by kernel_rfl) (by rfl) hPan rfl rfl agg_step HC0 hS ?_
        (simp only [Act.put, List.setIfInBounds_toArray, List.set_cons_zero, List.set_cons_succ])
        refine ap_one 7 (by kernel_rfl) ?_
        refine op_call (f := 26) 7 rfl (by rfl) rfl (by simp only [List.map_toArray, List.map_cons, List.map_nil]; rfl) Try.func26 (by kernel_rfl) (by kernel_rfl) (HLn _ hS).out ?_
        rintro e wn ⟨rfl, kn⟩
        have hS2 := hS.then kn
        refine ⟨_, rfl, fun _ => hS2, ?_⟩
        clear hS
        have hS := hS2
        clear hS2 kn
        (simp only [Act.put, List.setIfInBounds_toArray, List.set_cons_zero, List.set_cons_succ])
        refine ap_one 9 (by kernel_rfl) ?_
        refine op_call (f := 27) 9 rfl (by rfl) rfl (by simp only [List.map_toArray, List.map_cons, List.map_nil]; rfl) Try.func27 (by kernel_rfl) (by kernel_rfl) (HLr _ hS).out ?_
        rintro e wn ⟨rfl, kn⟩
        have hS2 := hS.then kn
        refine ⟨_, rfl, fun _ => hS2, ?_⟩
        clear hS
        have hS := hS2
        clear hS2 kn
        (simp only [Act.put, List.setIfInBounds_toArray, List.set_cons_zero, List.set_cons_succ])
        (refine ap_val (v := .bool true) 10 rfl (by kernel_rfl) (by kernel_rfl) (by kernel_rfl) (by kernel_rfl) (by rfl) hPan (fun w' _ => exec_eqs rfl rfl w') hS ?_; simp only [Act.put, List.setIfInBounds_toArray, List.set_cons_zero, List.set_cons_succ])
        (refine ap_val (v := ?_) 11 rfl (by kernel_rfl) (by kernel_rfl) (by kernel_rfl) (by kernel_rfl) (by rfl) hPan ?_ hS ?_; rotate_left; (intro w' hSw; go_simp; try with_reducible rfl); simp only [Act.put, List.setIfInBounds_toArray, List.set_cons_zero, List.set_cons_succ])
        (refine ap_val (v := ?_) 12 rfl (by kernel_rfl) (by kernel_rfl) (by kernel_rfl) (by kernel_rfl) (by rfl) hPan ?_ hS ?_; rotate_left; (intro w' hSw; go_simp; try with_reducible rfl); simp only [Act.put, List.setIfInBounds_toArray, List.set_cons_zero, List.set_cons_succ])
        (refine ap_val (v := ?_) 13 rfl (by kernel_rfl) (by kernel_rfl) (by kernel_rfl) (by kernel_rfl) (by rfl) hPan ?_ hS ?_; rotate_left; (intro w' hSw; go_simp; try with_reducible rfl); simp only [Act.put, List.setIfInBounds_toArray, List.set_cons_zero, List.set_cons_succ])
        (refine ap_val (v := ?_) 14 rfl (by kernel_rfl) (by kernel_rfl) (by kernel_rfl) (by kernel_rfl) (by rfl) hPan ?_ hS ?_; rotate_left; (intro w' hSw; go_simp; try with_reducible rfl); simp only [Act.put, List.setIfInBounds_toArray, List.set_cons_zero, List.set_cons_succ])
        (refine ap_val (v := ?_) 15 rfl (by kernel_rfl) (by kernel_rfl) (by kernel_rfl) (by kernel_rfl) (by rfl) hPan ?_ hS ?_; rotate_left; (intro w' hSw; go_simp; try with_reducible rfl); simp only [Act.put, List.setIfInBounds_toArray, List.set_cons_zero, List.set_cons_succ])
        (refine ap_val (v := ?_) 16 rfl (by kernel_rfl) (by kernel_rfl) (by kernel_rfl) (by kernel_rfl) (by rfl) hPan ?_ hS ?_; rotate_left; (intro w' hSw; go_simp; try with_reducible rfl); simp only [Act.put, List.setIfInBounds_toArray, List.set_cons_zero, List.set_cons_succ])
        (refine ap_val (v := ?_) 17 rfl (by kernel_rfl) (by kernel_rfl) (by kernel_rfl) (by kernel_rfl) (by rfl) hPan ?_ hS ?_; rotate_left; (intro w' hSw; go_simp; try with_reducible rfl); simp only [Act.put, List.setIfInBounds_toArray, List.set_cons_zero, List.set_cons_succ])
        (refine ap_val (v := ?_) 18 rfl (by kernel_rfl) (by kernel_rfl) (by kernel_rfl) (by kernel_rfl) (by rfl) hPan ?_ hS ?_; rotate_left; (intro w' hSw; go_simp; try with_reducible rfl); simp only [Act.put, List.setIfInBounds_toArray, List.set_cons_zero, List.set_cons_succ])
        (refine ap_val (v := ?_) 19 rfl (by kernel_rfl) (by kernel_rfl) (by kernel_rfl) (by kernel_rfl) (by rfl) hPan ?_ hS ?_; rotate_left; (intro w' hSw; go_simp; try with_reducible rfl); simp only [Act.put, List.setIfInBounds_toArray, List.set_cons_zero, List.set_cons_succ])
        (refine ap_val (v := ?_) 20 rfl (by kernel_rfl) (by kernel_rfl) (by kernel_rfl) (by kernel_rfl) (by rfl) hPan ?_ hS ?_; rotate_left; (intro w' hSw; go_simp; try with_reducible rfl); simp only [Act.put, List.setIfInBounds_toArray, List.set_cons_zero, List.set_cons_succ])
        (refine ap_off 21 rfl (by kernel_rfl) (by kernel_rfl) (by kernel_rfl) (by kernel_rfl) (by rfl) hPan hS ?_; simp only [Act.put, List.setIfInBounds_toArray, List.set_cons_zero, List.set_cons_succ])
        (refine ap_off 22 rfl (by kernel_rfl) (by kernel_rfl) (by kernel_rfl) (by kernel_rfl) (by rfl) hPan hS ?_; simp only [Act.put, List.setIfInBounds_toArray, List.set_cons_zero, List.set_cons_succ])
        (refine ap_off 23 rfl (by kernel_rfl) (by kernel_rfl) (by kernel_rfl) (by kernel_rfl) (by rfl) hPan hS ?_; simp only [Act.put, List.setIfInBounds_toArray, List.set_cons_zero, List.set_cons_succ])
        (refine ap_off 24 rfl (by kernel_rfl) (by kernel_rfl) (by kernel_rfl) (by kernel_rfl) (by rfl) hPan hS ?_; simp only [Act.put, List.setIfInBounds_toArray, List.set_cons_zero, List.set_cons_succ])
        (refine ap_off 25 rfl (by kernel_rfl) (by kernel_rfl) (by kernel_rfl) (by kernel_rfl) (by rfl) hPan hS ?_; simp only [Act.put, List.setIfInBounds_toArray, List.set_cons_zero, List.set_cons_succ])
        (refine ap_val (v := ?_) 26 rfl (by kernel_rfl) (by kernel_rfl) (by kernel_rfl) (by kernel_rfl) (by rfl) hPan ?_ hS ?_; rotate_left; (intro w' hSw; go_simp; try with_reducible rfl); simp only [Act.put, List.setIfInBounds_toArray, List.set_cons_zero, List.set_cons_succ])
        (refine ap_val (v := ?_) 27 rfl (by kernel_rfl) (by kernel_rfl) (by kernel_rfl) (by kernel_rfl) (by rfl) hPan ?_ hS ?_; rotate_left; (intro w' hSw; go_simp; try with_reducible rfl); simp only [Act.put, List.setIfInBounds_toArray, List.set_cons_zero, List.set_cons_succ])
        (refine ap_val (v := ?_) 28 rfl (by kernel_rfl) (by kernel_rfl) (by kernel_rfl) (by kernel_rfl) (by rfl) hPan ?_ hS ?_; rotate_left; (intro w' hSw; go_simp; try with_reducible rfl); simp only [Act.put, List.setIfInBounds_toArray, List.set_cons_zero, List.set_cons_succ])
        refine ap_one 29 (by kernel_rfl) ?_
        refine op_call (f := 17) 29 rfl (by rfl) rfl (by simp only [List.map_toArray, List.map_nil]) Try.func17 (by kernel_rfl) (by kernel_rfl) (HAl _).out ?_
        rintro e wn ⟨rfl, kn⟩
        have hS2 := hS.then kn
        refine ⟨_, rfl, fun _ => hS2, ?_⟩
        clear hS
        have hS := hS2
        clear hS2 kn
        (simp only [Act.put, List.setIfInBounds_toArray, List.set_cons_zero, List.set_cons_succ])
        (refine ap_val (v := ?_) 30 rfl (by kernel_rfl) (by kernel_rfl) (by kernel_rfl) (by kernel_rfl) (by rfl) hPan ?_ hS ?_; rotate_left; (intro w' hSw; go_simp; try with_reducible rfl); simp only [Act.put, List.setIfInBounds_toArray, List.set_cons_zero, List.set_cons_succ])
        refine ap_one 31 (by kernel_rfl) ?_
        refine op_run (v := .bool true) (w' := wn) 31 rfl (by rfl) (by go_simp) ?_
        refine ⟨fun h => (by cases h), ap_done (by kernel_rfl) ?_ _⟩
        (simp only [Act.put, List.setIfInBounds_toArray, List.set_cons_zero, List.set_cons_succ])
        have HKE := Lib.hid (HRet.out.then hS)
        clear hS hPan
        go_wp2
        go_ret
        exact ⟨rfl, HKE.out⟩
      · obtain rfl := hst rfl
        obtain ⟨v1, hv1, hA1⟩ := OwnCells.step HS4.out HW4.out (by unfold maxLen; omega) hok.2.2
        obtain ⟨v2, hv2, hA2⟩ := OwnCells.step HS6.out HW6.out (by unfold maxLen; omega) hok.2.2
        have hD5 := HD5.out
        have hD7 := HD7.out
        rw [hv1] at hD5
        rw [hv2] at hD7
        have HC5 : ∀ W, Keep [] w7 W → CellsAt W w4.heap.size 0 (stpCells (st, v1)) := fun W k => ((hD5.keep0 HK57.out).keep0 k).cellsAt
        have HC7 : ∀ W, Keep [] w7 W → CellsAt W w6.heap.size 0 (stpCells (st, v2)) := fun W k => (hD7.keep0 k).cellsAt
        have HA1 : ∀ W, Keep [] w7 W → StepAt W v1 st := fun W k => ((hA1.keep0 HK45.out).keep0 HK57.out).keep0 k
        have HA2 : ∀ W, Keep [] w7 W → StepAt W v2 st := fun W k => (hA2.keep0 HK67.out).keep0 k
        have HSm : ∀ W, Keep [] w7 W → ∀ ga gb, Blk W ga 45 (stpCells (st, v1)).toArray → Blk W gb 45 (stpCells (st, v2)).toArray → Hid (Calls Try.prog 16 #[.slice (some ⟨ga, 0, none⟩) 1 1, .slice (some ⟨gb, 0, none⟩) 1 1] W fun e w' => e = .returned (.bool true) ∧ Keep [] W w') := fun W k ga gb ha hb => by
          have := rstsame_any (some ⟨ga, 0, none⟩) (some ⟨gb, 0, none⟩) 1 1 [(st, v1)] [(st, v2)] W (stepsAt_one ha (HA1 W k)) (stepsAt_one hb (HA2 W k))
          rw [show decide (stps [(st, v1)] = stps [(st, v2)]) = true from decide_eq_true rfl] at this
          exact this
        clear hv1 hv2 hA1 hA2 hD5 hD7 HD5 HD7 HS4 HW4 HS6 HW6
        go_upto_region 5 with fail
        refine ap_begin 31 (Keep [] w7) (by kernel_rfl) (Keep.refl _ _).drew (fun hS hPan => ?_) (fun _ _ d _ _ h => by cases d <;> exact h)
        refine ap_agg 0 45 (.tmp 2) ([.int .i64 s.kind, .int .i64 s.a, .int .i64 s.n, .slice v.sa s.secs.length v.sc, .slice v.wa s.words.length v.wc]) rfl (by kernel_rfl) (by kernel_rfl) (by kernel_rfl) (by kernel_rfl) (by rfl) hPan rfl rfl agg_step HC0 hS ?_
        (simp only [Act.put, List.setIfInBounds_toArray, List.set_cons_zero, List.set_cons_succ])
        refine ap_agg 2 45 (.tmp 2) ([.int .i64 s.kind, .int .i64 s.a, .int .i64 s.n, .slice v.sa s.secs.length v.sc, .slice v.wa s.words.length v.wc]) rfl (by kernel_rfl) (by kernel_rfl) (by kernel_rfl) (by kernel_rfl) (by rfl) hPan rfl rfl agg_step HC0 hS ?_
        (simp only [Act.put, List.setIfInBounds_toArray, List.set_cons_zero, List.set_cons_succ])
        refine ap_one 1 (by kernel_rfl) ?_
        refine op_call (f := 24) 1 rfl (by rfl) rfl (by simp only [List.map_toArray, List.map_cons, List.map_nil]; rfl) Try.func24 (by kernel_rfl) (by kernel_rfl) (HRt _ hS).out ?_
        rintro e wn ⟨rfl, kn⟩
        have hS2 := hS.then kn
        refine ⟨_, rfl, fun _ => hS2, ?_⟩
        clear hS
        have hS := hS2
        clear hS2 kn
        (simp only [Act.put, List.setIfInBounds_toArray, List.set_cons_zero, List.set_cons_succ])
        refine ap_one 3 (by kernel_rfl) ?_
        refine op_call (f := 25) 3 rfl (by rfl) rfl (by simp only [List.map_toArray, List.map_cons, List.map_nil]; rfl) Try.func25 (by kernel_rfl) (by kernel_rfl) (HRr _ hS).out ?_
        rintro e wn ⟨rfl, kn⟩
        have hS2 := hS.then kn
        refine ⟨_, rfl, fun _ => hS2, ?_⟩
        clear hS
        have hS := hS2
        clear hS2 kn
        (simp only [Act.put, List.setIfInBounds_toArray, List.set_cons_zero, List.set_cons_succ])
        (refine ap_val (v := ?_) 4 rfl (by kernel_rfl) (by kernel_rfl) (by kernel_rfl) (by kernel_rfl) (by rfl) hPan ?_ hS ?_; rotate_left; (intro w' hSw; go_simp; try with_reducible rfl); simp only [Act.put, List.setIfInBounds_toArray, List.set_cons_zero, List.set_cons_succ])
        (refine ap_val (v := ?_) 5 rfl (by kernel_rfl) (by kernel_rfl) (by kernel_rfl) (by kernel_rfl) (by rfl) hPan ?_ hS ?_; rotate_left; (intro w' hSw; go_simp; try with_reducible rfl); simp only [Act.put, List.setIfInBounds_toArray, List.set_cons_zero, List.set_cons_succ])
        refine ap_agg 6 45 (.tmp 2) ([.int .i64 s.kind, .int .i64 s.a, .int .i64 s.n, .slice v.sa s.secs.length v.sc, .slice v.wa s.words.length v.wc]) rfl (by kernel_rfl) (by kernel_rfl) (by kernel_rfl) (by kernel_rfl) (by rfl) hPan rfl rfl agg_step HC0 hS ?_
        (simp only [Act.put, List.setIfInBounds_toArray, List.set_cons_zero, List.set_cons_succ])
        refine ap_agg 8 45 (.tmp 2) ([.int .i64 s.kind, .int .i64 s.a, .int .i64 s.n, .slice v.sa s.secs.length v.sc, .slice v.wa s.words.length v.wc]) rfl (by kernel_rfl) (by kernel_rfl) (by kernel_rfl) (by kernel_rfl) (by rfl) hPan rfl rfl agg_step HC0 hS ?_
        (simp only [Act.put, List.setIfInBounds_toArray, List.set_cons_zero, List.set_cons_succ])
        refine ap_one 7 (by kernel_rfl) ?_
        refine op_call (f := 26) 7 rfl (by rfl) rfl (by simp only [List.map_toArray, List.map_cons, List.map_nil]; rfl) Try.func26 (by kernel_rfl) (by kernel_rfl) (HLn _ hS).out ?_
        rintro e wn ⟨rfl, kn⟩
        have hS2 := hS.then kn
        refine ⟨_, rfl, fun _ => hS2, ?_⟩
        clear hS
        have hS := hS2
        clear hS2 kn
        (simp only [Act.put, List.setIfInBounds_toArray, List.set_cons_zero, List.set_cons_succ])
        refine ap_one 9 (by kernel_rfl) ?_
        refine op_call (f := 27) 9 rfl (by rfl) rfl (by simp only [List.map_toArray, List.map_cons, List.map_nil]; rfl) Try.func27 (by kernel_rfl) (by kernel_rfl) (HLr _ hS).out ?_
        rintro e wn ⟨rfl, kn⟩
        have hS2 := hS.then kn
        refine ⟨_, rfl, fun _ => hS2, ?_⟩
        clear hS
        have hS := hS2
        clear hS2 kn
        (simp only [Act.put, List.setIfInBounds_toArray, List.set_cons_zero, List.set_cons_succ])
        (refine ap_val (v := .bool true) 10 rfl (by kernel_rfl) (by kernel_rfl) (by kernel_rfl) (by kernel_rfl) (by rfl) hPan (fun w' _ => exec_eqs rfl rfl w') hS ?_; simp only [Act.put, List.setIfInBounds_toArray, List.set_cons_zero, List.set_cons_succ])
        (refine ap_val (v := ?_) 11 rfl (by kernel_rfl) (by kernel_rfl) (by kernel_rfl) (by kernel_rfl) (by rfl) hPan ?_ hS ?_; rotate_left; (intro w' hSw; go_simp; try with_reducible rfl); simp only [Act.put, List.setIfInBounds_toArray, List.set_cons_zero, List.set_cons_succ])
        (refine ap_val (v := ?_) 12 rfl (by kernel_rfl) (by kernel_rfl) (by kernel_rfl) (by kernel_rfl) (by rfl) hPan ?_ hS ?_; rotate_left; (intro w' hSw; go_simp; try with_reducible rfl); simp only [Act.put, List.setIfInBounds_toArray, List.set_cons_zero, List.set_cons_succ])
        (refine ap_val (v := ?_) 13 rfl (by kernel_rfl) (by kernel_rfl) (by kernel_rfl) (by kernel_rfl) (by rfl) hPan ?_ hS ?_; rotate_left; (intro w' hSw; go_simp; try with_reducible rfl); simp only [Act.put, List.setIfInBounds_toArray, List.set_cons_zero, List.set_cons_succ])
        (refine ap_val (v := ?_) 14 rfl (by kernel_rfl) (by kernel_rfl) (by kernel_rfl) (by kernel_rfl) (by rfl) hPan ?_ hS ?_; rotate_left; (intro w' hSw; go_simp; try with_reducible rfl); simp only [Act.put, List.setIfInBounds_toArray, List.set_cons_zero, List.set_cons_succ])
        (refine ap_val (v := ?_) 15 rfl (by kernel_rfl) (by kernel_rfl) (by kernel_rfl) (by kernel_rfl) (by rfl) hPan ?_ hS ?_; rotate_left; (intro w' hSw; go_simp; try with_reducible rfl); simp only [Act.put, List.setIfInBounds_toArray, List.set_cons_zero, List.set_cons_succ])
        (refine ap_val (v := ?_) 16 rfl (by kernel_rfl) (by kernel_rfl) (by kernel_rfl) (by kernel_rfl) (by rfl) hPan ?_ hS ?_; rotate_left; (intro w' hSw; go_simp; try with_reducible rfl); simp only [Act.put, List.setIfInBounds_toArray, List.set_cons_zero, List.set_cons_succ])
        (refine ap_val (v := ?_) 17 rfl (by kernel_rfl) (by kernel_rfl) (by kernel_rfl) (by kernel_rfl) (by rfl) hPan ?_ hS ?_; rotate_left; (intro w' hSw; go_simp; try with_reducible rfl); simp only [Act.put, List.setIfInBounds_toArray, List.set_cons_zero, List.set_cons_succ])
        (refine ap_val (v := ?_) 18 rfl (by kernel_rfl) (by kernel_rfl) (by kernel_rfl) (by kernel_rfl) (by rfl) hPan ?_ hS ?_; rotate_left; (intro w' hSw; go_simp; try with_reducible rfl); simp only [Act.put, List.setIfInBounds_toArray, List.set_cons_zero, List.set_cons_succ])
        (refine ap_val (v := ?_) 19 rfl (by kernel_rfl) (by kernel_rfl) (by kernel_rfl) (by kernel_rfl) (by rfl) hPan ?_ hS ?_; rotate_left; (intro w' hSw; go_simp; try with_reducible rfl); simp only [Act.put, List.setIfInBounds_toArray, List.set_cons_zero, List.set_cons_succ])
        (refine ap_val (v := ?_) 20 rfl (by kernel_rfl) (by kernel_rfl) (by kernel_rfl) (by kernel_rfl) (by rfl) hPan ?_ hS ?_; rotate_left; (intro w' hSw; go_simp; try with_reducible rfl); simp only [Act.put, List.setIfInBounds_toArray, List.set_cons_zero, List.set_cons_succ])
        refine ap_agg 21 45 (.tmp 5) ([.int .i64 st.kind, .int .i64 st.a, .int .i64 st.n, .slice v1.sa st.secs.length v1.sc, .slice v1.wa st.words.length v1.wc]) rfl (by kernel_rfl) (by kernel_rfl) (by kernel_rfl) (by kernel_rfl) (by rfl) hPan rfl rfl agg_step HC5 hS ?_
        (simp only [Act.put, List.setIfInBounds_toArray, List.set_cons_zero, List.set_cons_succ])
        refine ap_agg 23 45 (.tmp 7) ([.int .i64 st.kind, .int .i64 st.a, .int .i64 st.n, .slice v2.sa st.secs.length v2.sc, .slice v2.wa st.words.length v2.wc]) rfl (by kernel_rfl) (by kernel_rfl) (by kernel_rfl) (by kernel_rfl) (by rfl) hPan rfl rfl agg_step HC7 hS ?_
        (simp only [Act.put, List.setIfInBounds_toArray, List.set_cons_zero, List.set_cons_succ])
        refine ap_two34 22 24 (by kernel_rfl) ?_ ?_
        · skip
          have hA := Blk.new wn 45 #[.int .i64 st.kind, .int .i64 st.a, .int .i64 st.n, .slice v1.sa st.secs.length v1.sc, .slice v1.wa st.words.length v1.wc]
          have hSA : Keep [] w7 (wn.alloc (.cells #[.int .i64 st.kind, .int .i64 st.a, .int .i64 st.n, .slice v1.sa st.secs.length v1.sc, .slice v1.wa st.words.length v1.wc] 45)) := hS.alloc _
          refine op_run (v := .slice (some ⟨wn.heap.size, 0, none⟩) 1 1) (w' := wn.alloc (.cells #[.int .i64 st.kind, .int .i64 st.a, .int .i64 st.n, .slice v1.sa st.secs.length v1.sc, .slice v1.wa st.words.length v1.wc] 45)) 22 rfl (by rfl) (by go_simp) ?_
          refine ⟨fun _ => hSA, ?_⟩
          (simp only [Act.put, List.setIfInBounds_toArray, List.set_cons_zero, List.set_cons_succ])
          generalize wn.heap.size = gA at *
          generalize wn.alloc (.cells #[.int .i64 st.kind, .int .i64 st.a, .int .i64 st.n, .slice v1.sa st.secs.length v1.sc, .slice v1.wa st.words.length v1.wc] 45) = wA at *
          have hB := Blk.new wA 45 #[.int .i64 st.kind, .int .i64 st.a, .int .i64 st.n, .slice v2.sa st.secs.length v2.sc, .slice v2.wa st.words.length v2.wc]
          have hSB : Keep [] w7 (wA.alloc (.cells #[.int .i64 st.kind, .int .i64 st.a, .int .i64 st.n, .slice v2.sa st.secs.length v2.sc, .slice v2.wa st.words.length v2.wc] 45)) := hSA.alloc _
          have hA2 := hA.alloc (.cells #[.int .i64 st.kind, .int .i64 st.a, .int .i64 st.n, .slice v2.sa st.secs.length v2.sc, .slice v2.wa st.words.length v2.wc] 45)
          refine ap_one 24 (by kernel_rfl) ?_
          refine op_run (v := .slice (some ⟨wA.heap.size, 0, none⟩) 1 1) (w' := wA.alloc (.cells #[.int .i64 st.kind, .int .i64 st.a, .int .i64 st.n, .slice v2.sa st.secs.length v2.sc, .slice v2.wa st.words.length v2.wc] 45)) 24 rfl (by rfl) (by go_simp) ?_
          refine ⟨fun _ => hSB, ?_⟩
          (simp only [Act.put, List.setIfInBounds_toArray, List.set_cons_zero, List.set_cons_succ])
          generalize wA.heap.size = gB at *
          generalize wA.alloc (.cells #[.int .i64 st.kind, .int .i64 st.a, .int .i64 st.n, .slice v2.sa st.secs.length v2.sc, .slice v2.wa st.words.length v2.wc] 45) = wB at *
          have hS3 := hSB
          clear hS
          have hS := hS3
          clear hS3 hSA hSB hA
          refine ap_one 25 (by kernel_rfl) ?_
          refine op_call (f := 16) 25 rfl (by rfl) rfl (by simp only [List.map_toArray, List.map_cons, List.map_nil]; rfl) Try.func16 (by kernel_rfl) (by kernel_rfl) (HSm _ hS _ _ hA2 hB).out ?_
          rintro e wn ⟨rfl, kn⟩
          have hS2 := hS.then kn
          refine ⟨_, rfl, fun _ => hS2, ?_⟩
          clear hS
          have hS := hS2
          clear hS2 kn
          (simp only [Act.put, List.setIfInBounds_toArray, List.set_cons_zero, List.set_cons_succ])
          (refine ap_val (v := ?_) 26 rfl (by kernel_rfl) (by kernel_rfl) (by kernel_rfl) (by kernel_rfl) (by rfl) hPan ?_ hS ?_; rotate_left; (intro w' hSw; go_simp; try with_reducible rfl); simp only [Act.put, List.setIfInBounds_toArray, List.set_cons_zero, List.set_cons_succ])
          (refine ap_val (v := ?_) 27 rfl (by kernel_rfl) (by kernel_rfl) (by kernel_rfl) (by kernel_rfl) (by rfl) hPan ?_ hS ?_; rotate_left; (intro w' hSw; go_simp; try with_reducible rfl); simp only [Act.put, List.setIfInBounds_toArray, List.set_cons_zero, List.set_cons_succ])
          (refine ap_val (v := ?_) 28 rfl (by kernel_rfl) (by kernel_rfl) (by kernel_rfl) (by kernel_rfl) (by rfl) hPan ?_ hS ?_; rotate_left; (intro w' hSw; go_simp; try with_reducible rfl); simp only [Act.put, List.setIfInBounds_toArray, List.set_cons_zero, List.set_cons_succ])
          refine ap_one 29 (by kernel_rfl) ?_
          refine op_call (f := 17) 29 rfl (by rfl) rfl (by simp only [List.map_toArray, List.map_nil]) Try.func17 (by kernel_rfl) (by kernel_rfl) (HAl _).out ?_
          rintro e wn ⟨rfl, kn⟩
          have hS2 := hS.then kn
          refine ⟨_, rfl, fun _ => hS2, ?_⟩
          clear hS
          have hS := hS2
          clear hS2 kn
          (simp only [Act.put, List.setIfInBounds_toArray, List.set_cons_zero, List.set_cons_succ])
          (refine ap_val (v := ?_) 30 rfl (by kernel_rfl) (by kernel_rfl) (by kernel_rfl) (by kernel_rfl) (by rfl) hPan ?_ hS ?_; rotate_left; (intro w' hSw; go_simp; try with_reducible rfl); simp only [Act.put, List.setIfInBounds_toArray, List.set_cons_zero, List.set_cons_succ])
          refine ap_one 31 (by kernel_rfl) ?_
          refine op_run (v := .bool true) (w' := wn) 31 rfl (by rfl) (by go_simp) ?_
          refine ⟨fun h => (by cases h), ap_done (by kernel_rfl) ?_ _⟩
          (simp only [Act.put, List.setIfInBounds_toArray, List.set_cons_zero, List.set_cons_succ])
          have HKE := Lib.hid (HRet.out.then hS)
          clear hS hPan
          go_wp2
          go_ret
          exact ⟨rfl, HKE.out⟩
        · skip
          have hA := Blk.new wn 45 #[.int .i64 st.kind, .int .i64 st.a, .int .i64 st.n, .slice v2.sa st.secs.length v2.sc, .slice v2.wa st.words.length v2.wc]
          have hSA : Keep [] w7 (wn.alloc (.cells #[.int .i64 st.kind, .int .i64 st.a, .int .i64 st.n, .slice v2.sa st.secs.length v2.sc, .slice v2.wa st.words.length v2.wc] 45)) := hS.alloc _
          refine op_run (v := .slice (some ⟨wn.heap.size, 0, none⟩) 1 1) (w' := wn.alloc (.cells #[.int .i64 st.kind, .int .i64 st.a, .int .i64 st.n, .slice v2.sa st.secs.length v2.sc, .slice v2.wa st.words.length v2.wc] 45)) 24 rfl (by rfl) (by go_simp) ?_
          refine ⟨fun _ => hSA, ?_⟩
          (simp only [Act.put, List.setIfInBounds_toArray, List.set_cons_zero, List.set_cons_succ])
          generalize wn.heap.size = gA at *
          generalize wn.alloc (.cells #[.int .i64 st.kind, .int .i64 st.a, .int .i64 st.n, .slice v2.sa st.secs.length v2.sc, .slice v2.wa st.words.length v2.wc] 45) = wA at *
          have hB := Blk.new wA 45 #[.int .i64 st.kind, .int .i64 st.a, .int .i64 st.n, .slice v1.sa st.secs.length v1.sc, .slice v1.wa st.words.length v1.wc]
          have hSB : Keep [] w7 (wA.alloc (.cells #[.int .i64 st.kind, .int .i64 st.a, .int .i64 st.n, .slice v1.sa st.secs.length v1.sc, .slice v1.wa st.words.length v1.wc] 45)) := hSA.alloc _
          have hA2 := hA.alloc (.cells #[.int .i64 st.kind, .int .i64 st.a, .int .i64 st.n, .slice v1.sa st.secs.length v1.sc, .slice v1.wa st.words.length v1.wc] 45)
          refine ap_one 22 (by kernel_rfl) ?_
          refine op_run (v := .slice (some ⟨wA.heap.size, 0, none⟩) 1 1) (w' := wA.alloc (.cells #[.int .i64 st.kind, .int .i64 st.a, .int .i64 st.n, .slice v1.sa st.secs.length v1.sc, .slice v1.wa st.words.length v1.wc] 45)) 22 rfl (by rfl) (by go_simp) ?_
          refine ⟨fun _ => hSB, ?_⟩
          (simp only [Act.put, List.setIfInBounds_toArray, List.set_cons_zero, List.set_cons_succ])
          generalize wA.heap.size = gB at *
          generalize wA.alloc (.cells #[.int .i64 st.kind, .int .i64 st.a, .int .i64 st.n, .slice v1.sa st.secs.length v1.sc, .slice v1.wa st.words.length v1.wc] 45) = wB at *
          have hS3 := hSB
          clear hS
          have hS := hS3
          clear hS3 hSA hSB hA
          refine ap_one 25 (by kernel_rfl) ?_
          refine op_call (f := 16) 25 rfl (by rfl) rfl (by simp only [List.map_toArray, List.map_cons, List.map_nil]; rfl) Try.func16 (by kernel_rfl) (by kernel_rfl) (HSm _ hS _ _ hB hA2).out ?_
          rintro e wn ⟨rfl, kn⟩
          have hS2 := hS.then kn
          refine ⟨_, rfl, fun _ => hS2, ?_⟩
          clear hS
          have hS := hS2
          clear hS2 kn
          (simp only [Act.put, List.setIfInBounds_toArray, List.set_cons_zero, List.set_cons_succ])
          (refine ap_val (v := ?_) 26 rfl (by kernel_rfl) (by kernel_rfl) (by kernel_rfl) (by kernel_rfl) (by rfl) hPan ?_ hS ?_; rotate_left; (intro w' hSw; go_simp; try with_reducible rfl); simp only [Act.put, List.setIfInBounds_toArray, List.set_cons_zero, List.set_cons_succ])
          (refine ap_val (v := ?_) 27 rfl (by kernel_rfl) (by kernel_rfl) (by kernel_rfl) (by kernel_rfl) (by rfl) hPan ?_ hS ?_; rotate_left; (intro w' hSw; go_simp; try with_reducible rfl); simp only [Act.put, List.setIfInBounds_toArray, List.set_cons_zero, List.set_cons_succ])
          (refine ap_val (v := ?_) 28 rfl (by kernel_rfl) (by kernel_rfl) (by kernel_rfl) (by kernel_rfl) (by rfl) hPan ?_ hS ?_; rotate_left; (intro w' hSw; go_simp; try with_reducible rfl); simp only [Act.put, List.setIfInBounds_toArray, List.set_cons_zero, List.set_cons_succ])
          refine ap_one 29 (by kernel_rfl) ?_
          refine op_call (f := 17) 29 rfl (by rfl) rfl (by simp only [List.map_toArray, List.map_nil]) Try.func17 (by kernel_rfl) (by kernel_rfl) (HAl _).out ?_
          rintro e wn ⟨rfl, kn⟩
          have hS2 := hS.then kn
          refine ⟨_, rfl, fun _ => hS2, ?_⟩
          clear hS
          have hS := hS2
          clear hS2 kn
          (simp only [Act.put, List.setIfInBounds_toArray, List.set_cons_zero, List.set_cons_succ])
          (refine ap_val (v := ?_) 30 rfl (by kernel_rfl) (by kernel_rfl) (by kernel_rfl) (by kernel_rfl) (by rfl) hPan ?_ hS ?_; rotate_left; (intro w' hSw; go_simp; try with_reducible rfl); simp only [Act.put, List.setIfInBounds_toArray, List.set_cons_zero, List.set_cons_succ])
          refine ap_one 31 (by kernel_rfl) ?_
          refine op_run (v := .bool true) (w' := wn) 31 rfl (by rfl) (by go_simp) ?_
          refine ⟨fun h => (by cases h), ap_done (by kernel_rfl) ?_ _⟩
          (simp only [Act.put, List.setIfInBounds_toArray, List.set_cons_zero, List.set_cons_succ])
          have HKE := Lib.hid (HRet.out.then hS)
          clear hS hPan
          go_wp2
          go_ret
          exact ⟨rfl, HKE.out⟩
    · go_wp2
      go_ret
      exact ⟨rfl, HK3.out⟩
end Go.Proofs.Ytoepkhkaifgddaa
