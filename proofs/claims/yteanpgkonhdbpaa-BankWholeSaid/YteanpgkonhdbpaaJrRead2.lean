/- A journal's entry of four words; whether a place is blank; walked. No condition. -/
import Derived.Test.YteanpgkonhdbpaaJrRead
import Derived.Test.YteanpgkonhdbpaaPend
namespace Go.Proofs.Yteanpgkonhdbpaa
open Go.RowKit

section
variable {P : Program} {ops : Array Oper} {Q : Exit → Act → World → Prop} {md : Region.Mode} {S : World → Prop} {p : Nat} {fuel : Nat} {listed : Array Bool} {a : Act} {w : World}
/-- One of two operations comes up. -/
theorem ap_twoJ (i j : Nat) (hr : Region.ready md ops listed = [i, j]) (h : wpOp P ops Q i (fun a' w' => ((listed.setIfInBounds i true).getD p true = false → S w') ∧ wpAnyP P md ops Q p S fuel (listed.setIfInBounds i true) a' w') a w)
    (h' : wpOp P ops Q j (fun a' w' => ((listed.setIfInBounds j true).getD p true = false → S w') ∧ wpAnyP P md ops Q p S fuel (listed.setIfInBounds j true) a' w') a w) : wpAnyP P md ops Q p S (fuel + 1) listed a w :=
  ⟨fun h0 => (by rw [hr] at h0; cases h0), fun k hk => by
    rw [hr] at hk
    simp only [List.mem_cons, List.not_mem_nil, or_false] at hk
    rcases hk with rfl | rfl
    · exact h
    · exact h'⟩
end
theorem agg_pair : AggOf Try.prog 185 2 := ⟨by kernel_rfl, by kernel_rfl⟩
theorem agg_entry : AggOf Try.prog 46 2 := ⟨by kernel_rfl, by kernel_rfl⟩
/-- An entry's cells. -/
def entC (e : Nat × Nat) : List Value := [.int .u32 (e.1 : Int), .int .u32 (e.2 : Int)]
theorem entC_one (e : Nat × Nat) : ∀ u ∈ entC e, u.oneCell' = true := by
  intro u hu
  simp [entC] at hu
  rcases hu with rfl | rfl <;> rfl
/-- A struct and a value are handed back. -/
theorem results_cell_tmpJ {P : Program} {w : World} {fn : Func} {p q : Tmp} {ty : TypeId} (h : fn.results = #[.cell p ty, .tmp q]) (tmps : Array Value) {g t : Nat} {vs : List Value} {v : Value} (hp : tmps.getD p undef = .pointer (some ⟨g, 0, none⟩)) (hq : tmps.getD q undef = v)
    (hb : Blk w g t vs.toArray) (hA : AggOf P ty vs.length) : (results fn tmps).run P w = .ok (.tuple #[.agg vs.toArray, v]) w := results_cell_tmp h tmps hp hq hb hA
/-- What reading a place answers. -/
def RetE (w : World) (r : Option (Nat × Nat)) (e : Ending) (w' : World) : Prop := e = .returned (.tuple #[.agg (entC (r.getD (0, 0))).toArray, .bool r.isSome]) ∧ Keep [] w w'

set_option maxRecDepth 100000 in
set_option maxHeartbeats 4000000 in
theorem read_any47 (A : Addr) (c : Nat) (x0 x1 x2 x3 : Nat) (w : World) (hr : Reads w 1 (some A) 4 (wordsV [x0, x1, x2, x3])) (h0 : x0 < 4294967296) (h1 : x1 < 4294967296) (h2 : x2 < 4294967296) (h3 : x3 < 4294967296) :
    Calls Try.prog 96 #[.slice (some A) 4 c] w (RetE w (ent4 x0 x1 x2 x3)) := by
  obtain ⟨b, o, hA, hb, hc⟩ := hr.addr (by omega)
  cases hA
  have hcell : ∀ W, Keep [] w W → W.cell? ⟨b, o, none⟩ = some (.int .u32 (x0 : Int)) ∧ W.cell? ⟨b, o + 1, none⟩ = some (.int .u32 (x1 : Int)) ∧ W.cell? ⟨b, o + 2, none⟩ = some (.int .u32 (x2 : Int)) ∧ W.cell? ⟨b, o + 3, none⟩ = some (.int .u32 (x3 : Int)) := fun W hk =>
    ⟨by rw [hk.cell hb (by simp)]; exact hc 0 _ rfl, by rw [hk.cell hb (by simp)]; exact hc 1 _ rfl, by rw [hk.cell hb (by simp)]; exact hc 2 _ rfl, by rw [hk.cell hb (by simp)]; exact hc 3 _ rfl⟩
  have HR1 := fun W => Lib.hid (right_any05 x0 x1 W h0)
  have HR2 := fun W => Lib.hid (right_any05 x2 x3 W h2)
  have HE : Hid (ent4 x0 x1 x2 x3 = if twinJ x0 x1 = true ∧ twinJ x2 x3 = true ∧ x2 ≠ 0 ∧ x2 ≤ 1073741824 then some (x2, x0) else none) := show _ = _ from rfl
  have hsz : w.heap.size ≤ w.heap.size := Nat.le_refl _
  clear hr hc hb hsz
  obtain ⟨t1, ht1⟩ : ∃ t, twinJ x0 x1 = t := ⟨_, rfl⟩
  obtain ⟨t2, ht2⟩ : ∃ t, twinJ x2 x3 = t := ⟨_, rfl⟩
  rw [ht1] at HR1 HE
  rw [ht2] at HR2 HE
  clear ht1 ht2
  go_enter Try.func96, Try.ntmps96
  have KA : Keep [] w (w.alloc (.cells #[.int .u32 0, .int .u32 0] 46)) := (Keep.refl [] w).alloc _
  have hB0 := Blk.new w 46 #[.int .u32 0, .int .u32 0]
  have hF : ∀ W, Keep [] (w.alloc (.cells #[.int .u32 0, .int .u32 0] 46)) W → W.cell? ⟨b, o, none⟩ = some (.int .u32 (x0 : Int)) ∧ W.cell? ⟨b, o + 1, none⟩ = some (.int .u32 (x1 : Int)) ∧ W.cell? ⟨b, o + 2, none⟩ = some (.int .u32 (x2 : Int)) ∧ W.cell? ⟨b, o + 3, none⟩ = some (.int .u32 (x3 : Int)) := fun W hk => hcell W (KA.then hk)
  clear hcell
  go_upto_region 1 with fail
  generalize w.alloc (.cells #[.int .u32 0, .int .u32 0] 46) = w0 at *
  have hg0 := hB0.lt
  refine ap_begin 17 (Keep [] w0) rfl (Keep.refl _ _).drew (fun hS hPan => ?_) (fun _ _ d _ _ h => by cases d <;> exact h)
  (refine ap_val (v := ?_) 0 rfl (by kernel_rfl) (by kernel_rfl) (by kernel_rfl) (by kernel_rfl) (by rfl) hPan ?_ hS ?_; rotate_left; (intro w' hSw; go_simp; try with_reducible rfl); simp only [Act.put, List.setIfInBounds_toArray, List.set_cons_zero, List.set_cons_succ])
  (refine ap_val (v := ?_) 1 rfl (by kernel_rfl) (by kernel_rfl) (by kernel_rfl) (by kernel_rfl) (by rfl) hPan ?_ hS ?_; rotate_left; (intro w' hSw; go_simp; try with_reducible rfl); simp only [Act.put, List.setIfInBounds_toArray, List.set_cons_zero, List.set_cons_succ])
  (refine ap_val (v := ?_) 2 rfl (by kernel_rfl) (by kernel_rfl) (by kernel_rfl) (by kernel_rfl) (by rfl) hPan ?_ hS ?_; rotate_left; (intro w' hSw; obtain ⟨f1,f2,f3,f4⟩ := hF w' hSw; go_simp; try with_reducible rfl); simp only [Act.put, List.setIfInBounds_toArray, List.set_cons_zero, List.set_cons_succ])
  (refine ap_val (v := ?_) 3 rfl (by kernel_rfl) (by kernel_rfl) (by kernel_rfl) (by kernel_rfl) (by rfl) hPan ?_ hS ?_; rotate_left; (intro w' hSw; go_simp; try with_reducible rfl); simp only [Act.put, List.setIfInBounds_toArray, List.set_cons_zero, List.set_cons_succ])
  (refine ap_val (v := ?_) 4 rfl (by kernel_rfl) (by kernel_rfl) (by kernel_rfl) (by kernel_rfl) (by rfl) hPan ?_ hS ?_; rotate_left; (intro w' hSw; go_simp; try with_reducible rfl); simp only [Act.put, List.setIfInBounds_toArray, List.set_cons_zero, List.set_cons_succ])
  (refine ap_val (v := ?_) 5 rfl (by kernel_rfl) (by kernel_rfl) (by kernel_rfl) (by kernel_rfl) (by rfl) hPan ?_ hS ?_; rotate_left; (intro w' hSw; obtain ⟨f1,f2,f3,f4⟩ := hF w' hSw; go_simp; try with_reducible rfl); simp only [Act.put, List.setIfInBounds_toArray, List.set_cons_zero, List.set_cons_succ])
  (refine ap_val (v := ?_) 6 rfl (by kernel_rfl) (by kernel_rfl) (by kernel_rfl) (by kernel_rfl) (by rfl) hPan ?_ hS ?_; rotate_left; (intro w' hSw; go_simp; try with_reducible rfl); simp only [Act.put, List.setIfInBounds_toArray, List.set_cons_zero, List.set_cons_succ])
  (refine ap_val (v := ?_) 7 rfl (by kernel_rfl) (by kernel_rfl) (by kernel_rfl) (by kernel_rfl) (by rfl) hPan ?_ hS ?_; rotate_left; (intro w' hSw; go_simp; try with_reducible rfl); simp only [Act.put, List.setIfInBounds_toArray, List.set_cons_zero, List.set_cons_succ])
  (refine ap_val (v := ?_) 8 rfl (by kernel_rfl) (by kernel_rfl) (by kernel_rfl) (by kernel_rfl) (by rfl) hPan ?_ hS ?_; rotate_left; (intro w' hSw; go_simp; try with_reducible rfl); simp only [Act.put, List.setIfInBounds_toArray, List.set_cons_zero, List.set_cons_succ])
  (refine ap_val (v := ?_) 9 rfl (by kernel_rfl) (by kernel_rfl) (by kernel_rfl) (by kernel_rfl) (by rfl) hPan ?_ hS ?_; rotate_left; (intro w' hSw; obtain ⟨f1,f2,f3,f4⟩ := hF w' hSw; go_simp; try with_reducible rfl); simp only [Act.put, List.setIfInBounds_toArray, List.set_cons_zero, List.set_cons_succ])
  (refine ap_val (v := ?_) 10 rfl (by kernel_rfl) (by kernel_rfl) (by kernel_rfl) (by kernel_rfl) (by rfl) hPan ?_ hS ?_; rotate_left; (intro w' hSw; go_simp; try with_reducible rfl); simp only [Act.put, List.setIfInBounds_toArray, List.set_cons_zero, List.set_cons_succ])
  (refine ap_val (v := ?_) 11 rfl (by kernel_rfl) (by kernel_rfl) (by kernel_rfl) (by kernel_rfl) (by rfl) hPan ?_ hS ?_; rotate_left; (intro w' hSw; go_simp; try with_reducible rfl); simp only [Act.put, List.setIfInBounds_toArray, List.set_cons_zero, List.set_cons_succ])
  (refine ap_val (v := ?_) 12 rfl (by kernel_rfl) (by kernel_rfl) (by kernel_rfl) (by kernel_rfl) (by rfl) hPan ?_ hS ?_; rotate_left; (intro w' hSw; obtain ⟨f1,f2,f3,f4⟩ := hF w' hSw; go_simp; try with_reducible rfl); simp only [Act.put, List.setIfInBounds_toArray, List.set_cons_zero, List.set_cons_succ])
  (refine ap_val (v := ?_) 13 rfl (by kernel_rfl) (by kernel_rfl) (by kernel_rfl) (by kernel_rfl) (by rfl) hPan ?_ hS ?_; rotate_left; (intro w' hSw; go_simp; try with_reducible rfl); simp only [Act.put, List.setIfInBounds_toArray, List.set_cons_zero, List.set_cons_succ])
  generalize w0.drew = wd at *
  refine ap_twoJ 14 15 (by kernel_rfl) ?ta ?tb
  case' ta =>
    refine op_run (v := .pointer (some ⟨wd.heap.size, 0, none⟩)) (w' := wd.alloc (.cells #[.int .u32 0, .int .u32 0] 185)) 14 rfl (by rfl) (by go_simp) ?_
    refine ⟨fun _ => hS.alloc _, ?_⟩
    (simp only [Act.put, List.setIfInBounds_toArray, List.set_cons_zero, List.set_cons_succ])
    have hP1 := Blk.new wd 185 #[.int .u32 0, .int .u32 0]
    have hz1 := hS.size
    replace hS := hS.alloc (.cells #[.int .u32 0, .int .u32 0] 185)
    obtain ⟨g4, hg1⟩ : ∃ g, wd.heap.size = g := ⟨_, rfl⟩
    rw [hg1] at hP1 hz1 ⊢
    generalize wd.alloc (.cells #[.int .u32 0, .int .u32 0] 185) = we at *
    refine ap_one 15 (by kernel_rfl) ?_
    refine op_run (v := .pointer (some ⟨we.heap.size, 0, none⟩)) (w' := we.alloc (.cells #[.int .u32 0, .int .u32 0] 185)) 15 rfl (by rfl) (by go_simp) ?_
    refine ⟨fun _ => hS.alloc _, ?_⟩
    (simp only [Act.put, List.setIfInBounds_toArray, List.set_cons_zero, List.set_cons_succ])
    have hP2 := Blk.new we 185 #[.int .u32 0, .int .u32 0]
    have hlt := hP1.lt
    have hz2 := hS.size
    replace hP1 := hP1.alloc (.cells #[.int .u32 0, .int .u32 0] 185)
    replace hS := hS.alloc (.cells #[.int .u32 0, .int .u32 0] 185)
    obtain ⟨g5, hg2⟩ : ∃ g, we.heap.size = g := ⟨_, rfl⟩
    rw [hg2] at hP2 hlt hz2 ⊢
    generalize we.alloc (.cells #[.int .u32 0, .int .u32 0] 185) = wf at *
    have hne : g4 ≠ g5 := by omega
    have P4 : Blk wf g4 185 #[.int .u32 0, .int .u32 0] := hP1
    have P5 : Blk wf g5 185 #[.int .u32 0, .int .u32 0] := hP2
    clear hP1 hP2 hg1 hg2
  case' tb =>
    refine op_run (v := .pointer (some ⟨wd.heap.size, 0, none⟩)) (w' := wd.alloc (.cells #[.int .u32 0, .int .u32 0] 185)) 15 rfl (by rfl) (by go_simp) ?_
    refine ⟨fun _ => hS.alloc _, ?_⟩
    (simp only [Act.put, List.setIfInBounds_toArray, List.set_cons_zero, List.set_cons_succ])
    have hP1 := Blk.new wd 185 #[.int .u32 0, .int .u32 0]
    have hz1 := hS.size
    replace hS := hS.alloc (.cells #[.int .u32 0, .int .u32 0] 185)
    obtain ⟨g5, hg1⟩ : ∃ g, wd.heap.size = g := ⟨_, rfl⟩
    rw [hg1] at hP1 hz1 ⊢
    generalize wd.alloc (.cells #[.int .u32 0, .int .u32 0] 185) = we at *
    refine ap_one 14 (by kernel_rfl) ?_
    refine op_run (v := .pointer (some ⟨we.heap.size, 0, none⟩)) (w' := we.alloc (.cells #[.int .u32 0, .int .u32 0] 185)) 14 rfl (by rfl) (by go_simp) ?_
    refine ⟨fun _ => hS.alloc _, ?_⟩
    (simp only [Act.put, List.setIfInBounds_toArray, List.set_cons_zero, List.set_cons_succ])
    have hP2 := Blk.new we 185 #[.int .u32 0, .int .u32 0]
    have hlt := hP1.lt
    have hz2 := hS.size
    replace hP1 := hP1.alloc (.cells #[.int .u32 0, .int .u32 0] 185)
    replace hS := hS.alloc (.cells #[.int .u32 0, .int .u32 0] 185)
    obtain ⟨g4, hg2⟩ : ∃ g, we.heap.size = g := ⟨_, rfl⟩
    rw [hg2] at hP2 hlt hz2 ⊢
    generalize we.alloc (.cells #[.int .u32 0, .int .u32 0] 185) = wf at *
    have hne : g4 ≠ g5 := by omega
    have P4 : Blk wf g4 185 #[.int .u32 0, .int .u32 0] := hP2
    have P5 : Blk wf g5 185 #[.int .u32 0, .int .u32 0] := hP1
    clear hP1 hP2 hg1 hg2
  all_goals
    refine ap_one 16 (by kernel_rfl) ?_
    refine op_store_all 16 rfl (by rfl) rfl rfl rfl (vs := [.int .u32 (x0 : Int), .int .u32 (x1 : Int)]) agg_pair.2 P4 (by intro u hu; simp at hu; rcases hu with rfl | rfl <;> rfl) rfl ?_
    intro w3 d3 k3
    have hS3 : Keep [] w0 w3 := hS.trans k3 (fun y hy hlt => by simp at hy; omega)
    have P6 := P5.keep k3 (by simp; omega)
    refine ⟨fun _ => hS3, ?_⟩
    (simp only [Act.put, List.setIfInBounds_toArray, List.set_cons_zero, List.set_cons_succ])
    refine ap_one 17 (by kernel_rfl) ?_
    refine op_store_all 17 rfl (by rfl) rfl rfl rfl (vs := [.int .u32 (x2 : Int), .int .u32 (x3 : Int)]) agg_pair.2 P6 (by intro u hu; simp at hu; rcases hu with rfl | rfl <;> rfl) rfl ?_
    intro w4 d4 k4
    have hS4 : Keep [] w0 w4 := hS3.trans k4 (fun y hy hlt => by simp at hy; omega)
    have d5 := d3.keep k4 (by simp; omega)
    refine ⟨fun h => (by cases h), ap_done (by kernel_rfl) ?_ _⟩
    (simp only [Act.put, List.setIfInBounds_toArray, List.set_cons_zero, List.set_cons_succ])
    have hB4 := hB0.keep0 hS4
    have K4 := Lib.hid (KA.then hS4)
    have HB4 := Lib.hid hB4
    have HD4 := Lib.hid d4
    have HD5 := Lib.hid d5
    have c50 := d4.cell 0
    simp at c50
    have hgz : g4 ≠ w.heap.size ∧ g5 ≠ w.heap.size := by omega
    clear hS hPan hS3 P6 P4 P5 k3 k4 hS4 hF d3 hB0 KA hB4 d4 d5 hz1 hz2 hlt
    cases t1
    · have HN : Hid (ent4 x0 x1 x2 x3 = none) := by show _ = _; rw [HE.out, if_neg (by simp)]
      clear HE HR2
      go_wp2_with (first
        | (refine wpList_load_agg rfl 185 (.tmp 4) rfl rfl (cs := [.int .u32 (x0 : Int), .int .u32 (x1 : Int)]) agg_pair HD5.out.cellsAt ?_)
        | (refine (HR1 _).out.mono ?_; clear HR1; rintro e w5 ⟨rfl, k5⟩)
        | (refine stop_store 46 (.tmp 2) (.tmp 38) rfl ?_))
      constructor
      refine wpList_store_all rfl 46 (.tmp 2) (.tmp 38) rfl rfl rfl (vs := entC (0, 0)) agg_entry.2 (HB4.out.keep0 k5) (entC_one _) rfl ?_
      intro w6 d6 k6
      go_wp2
      refine bodyPost_ret (results_cell_tmp rfl _ rfl rfl d6 agg_entry) rfl ?_
      rw [HN.out]
      exact ⟨rfl, (K4.out.then k5).trans k6 (fun y hy hlt => by simp at hy; omega)⟩
    · cases t2
      · have HN : Hid (ent4 x0 x1 x2 x3 = none) := by show _ = _; rw [HE.out, if_neg (by simp)]
        clear HE
        go_wp2_with (first
          | (refine wpList_load_agg rfl 185 (.tmp 4) rfl rfl (cs := [.int .u32 (x0 : Int), .int .u32 (x1 : Int)]) agg_pair HD5.out.cellsAt ?_)
          | (refine (HR1 _).out.mono ?_; clear HR1; rintro e w5 ⟨rfl, k5⟩)
          | (refine stop_at 24 rfl ?_))
        constructor
        refine wpList_agg_gd (by rfl) 185 (.tmp 5) rfl rfl (cs := [.int .u32 (x2 : Int), .int .u32 (x3 : Int)]) agg_pair (HD4.out.keep0 k5).cellsAt ?_
        go_wp2_with (first
          | (refine (HR2 _).out.mono ?_; clear HR2; rintro e w7 ⟨rfl, k7⟩)
          | (refine stop_store 46 (.tmp 2) (.tmp 38) rfl ?_))
        constructor
        refine wpList_store_all rfl 46 (.tmp 2) (.tmp 38) rfl rfl rfl (vs := entC (0, 0)) agg_entry.2 (HB4.out.keep0 (k5.then k7)) (entC_one _) rfl ?_
        intro w6 d6 k6
        go_wp2
        refine bodyPost_ret (results_cell_tmp rfl _ rfl rfl d6 agg_entry) rfl ?_
        rw [HN.out]
        exact ⟨rfl, ((K4.out.then k5).then k7).trans k6 (fun y hy hlt => by simp at hy; omega)⟩
      · have hc4 : ∀ W, Keep [] w4 W → W.cell? ⟨g5, 0, none⟩ = some (.int .u32 (x2 : Int)) := fun W hk => (HD4.out.keep0 hk).cell 0
        have hc5 : ∀ W, Keep [] w4 W → W.cell? ⟨g4, 0, none⟩ = some (.int .u32 (x0 : Int)) := fun W hk => (HD5.out.keep0 hk).cell 0
        have HC4 := Lib.hid hc4
        have HC5 := Lib.hid hc5
        clear hc4 hc5
        by_cases hno : x2 = 0 ∨ 1073741824 < x2
        · have HN : Hid (ent4 x0 x1 x2 x3 = none) := by show _ = _; rw [HE.out, if_neg (by omega)]
          clear HE
          rcases hno with hz | hz
          · have hq0 : ((x2 : Int) == 0) = true := by rw [beq_iff_eq]; omega
            clear hz
            go_wp2_with (first
              | (refine wpList_load_agg rfl 185 (.tmp 4) rfl rfl (cs := [.int .u32 (x0 : Int), .int .u32 (x1 : Int)]) agg_pair HD5.out.cellsAt ?_)
              | (refine (HR1 _).out.mono ?_; clear HR1; rintro e w5 ⟨rfl, k5⟩)
              | (refine stop_at 24 rfl ?_))
            constructor
            refine wpList_agg_gd (by rfl) 185 (.tmp 5) rfl rfl (cs := [.int .u32 (x2 : Int), .int .u32 (x3 : Int)]) agg_pair (HD4.out.keep0 k5).cellsAt ?_
            go_wp2_with (first
              | (refine (HR2 _).out.mono ?_; clear HR2; rintro e w7 ⟨rfl, k7⟩; have c57 := HC4.out _ (k5.then k7))
              | (refine stop_store 46 (.tmp 2) (.tmp 38) rfl ?_))
            constructor
            refine wpList_store_all rfl 46 (.tmp 2) (.tmp 38) rfl rfl rfl (vs := entC (0, 0)) agg_entry.2 (HB4.out.keep0 (k5.then k7)) (entC_one _) rfl ?_
            intro w6 d6 k6
            go_wp2
            refine bodyPost_ret (results_cell_tmp rfl _ rfl rfl d6 agg_entry) rfl ?_
            rw [HN.out]
            exact ⟨rfl, ((K4.out.then k5).then k7).trans k6 (fun y hy hlt => by simp at hy; omega)⟩
          · have hq0 : ((x2 : Int) == 0) = false := by rw [beq_eq_false_iff_ne]; omega
            have hq1 : decide ((1073741824 : Int) < (x2 : Int)) = true := decide_eq_true (by omega)
            go_wp2_with (first
              | (refine wpList_load_agg rfl 185 (.tmp 4) rfl rfl (cs := [.int .u32 (x0 : Int), .int .u32 (x1 : Int)]) agg_pair HD5.out.cellsAt ?_)
              | (refine (HR1 _).out.mono ?_; clear HR1; rintro e w5 ⟨rfl, k5⟩)
              | (refine stop_at 24 rfl ?_))
            constructor
            refine wpList_agg_gd (by rfl) 185 (.tmp 5) rfl rfl (cs := [.int .u32 (x2 : Int), .int .u32 (x3 : Int)]) agg_pair (HD4.out.keep0 k5).cellsAt ?_
            go_wp2_with (first
              | (refine (HR2 _).out.mono ?_; clear HR2; rintro e w7 ⟨rfl, k7⟩; have c57 := HC4.out _ (k5.then k7))
              | (refine stop_store 46 (.tmp 2) (.tmp 38) rfl ?_))
            constructor
            refine wpList_store_all rfl 46 (.tmp 2) (.tmp 38) rfl rfl rfl (vs := entC (0, 0)) agg_entry.2 (HB4.out.keep0 (k5.then k7)) (entC_one _) rfl ?_
            intro w6 d6 k6
            go_wp2
            refine bodyPost_ret (results_cell_tmp rfl _ rfl rfl d6 agg_entry) rfl ?_
            rw [HN.out]
            exact ⟨rfl, ((K4.out.then k5).then k7).trans k6 (fun y hy hlt => by simp at hy; omega)⟩
        · have HN : Hid (ent4 x0 x1 x2 x3 = some (x2, x0)) := by show _ = _; rw [HE.out, if_pos ⟨rfl, rfl, by omega, by omega⟩]
          have hq0 : ((x2 : Int) == 0) = false := by rw [beq_eq_false_iff_ne]; omega
          have hq1 : decide ((1073741824 : Int) < (x2 : Int)) = false := decide_eq_false (by omega)
          clear HE
          go_wp2_with (first
            | (refine wpList_load_agg rfl 185 (.tmp 4) rfl rfl (cs := [.int .u32 (x0 : Int), .int .u32 (x1 : Int)]) agg_pair HD5.out.cellsAt ?_)
            | (refine (HR1 _).out.mono ?_; clear HR1; rintro e w5 ⟨rfl, k5⟩)
            | (refine stop_at 24 rfl ?_))
          constructor
          refine wpList_agg_gd (by rfl) 185 (.tmp 5) rfl rfl (cs := [.int .u32 (x2 : Int), .int .u32 (x3 : Int)]) agg_pair (HD4.out.keep0 k5).cellsAt ?_
          go_wp2_with (first
            | (refine (HR2 _).out.mono ?_; clear HR2; rintro e w7 ⟨rfl, k7⟩; have c57 := HC4.out _ (k5.then k7); have c47 := HC5.out _ (k5.then k7))
            | (refine stop_store 46 (.tmp 2) (.tmp 43) rfl ?_))
          constructor
          refine wpList_store_all rfl 46 (.tmp 2) (.tmp 43) rfl rfl rfl (vs := entC (x2, x0)) agg_entry.2 (HB4.out.keep0 (k5.then k7)) (entC_one _) rfl ?_
          intro w6 d6 k6
          go_wp2
          refine bodyPost_ret (results_cell_tmp rfl _ rfl rfl d6 agg_entry) rfl ?_
          rw [HN.out]
          exact ⟨rfl, ((K4.out.then k5).then k7).trans k6 (fun y hy hlt => by simp at hy; omega)⟩
end Go.Proofs.Yteanpgkonhdbpaa
