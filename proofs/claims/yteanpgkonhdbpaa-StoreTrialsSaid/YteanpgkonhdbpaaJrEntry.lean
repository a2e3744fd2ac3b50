/- The entry that four words say, as the law reads it; walked. No condition. -/
import Derived.Test.YteanpgkonhdbpaaJrAdd
import Derived.Test.YteanpgkonhdbpaaJrSkip
namespace Go.Proofs.Yteanpgkonhdbpaa
open Go.RowKit

set_option maxRecDepth 100000 in
set_option maxHeartbeats 1000000 in
theorem other_any (a : Nat) (w : World) (ha : a < 4294967296) :
    Calls Try.prog 106 #[.int .u32 (a : Int)] w fun e w' => e = .returned (.int .u32 ((cplJ a : Nat) : Int)) ∧ w = w' := by
  have hw : IntKind.u32.wrap (4294967295 - (a : Int)) = ((cplJ a : Nat) : Int) := by
    unfold cplJ
    rw [show IntKind.u32.wrap (4294967295 - (a : Int)) = 4294967295 - (a : Int) from IntWalk.u32_in _ (by omega)]
    omega
  go_enter Try.func106, Try.ntmps106
  go_wp2
  go_ret
  exact ⟨rfl, rfl⟩

set_option maxRecDepth 100000 in
set_option maxHeartbeats 4000000 in
theorem entry_any47 (A : Addr) (c : Nat) (x0 x1 x2 x3 : Nat) (w : World) (hr : Reads w 1 (some A) 4 (wordsV [x0, x1, x2, x3])) (h0 : x0 < 4294967296) (_h1 : x1 < 4294967296) (h2 : x2 < 4294967296) (_h3 : x3 < 4294967296) :
    Calls Try.prog 68 #[.slice (some A) 4 c] w (RetE w (ent4 x0 x1 x2 x3)) := by
  obtain ⟨b, o, hA, hb, hc⟩ := hr.addr (by omega)
  cases hA
  have hcell : ∀ W, Keep [] w W → W.cell? ⟨b, o, none⟩ = some (.int .u32 (x0 : Int)) ∧ W.cell? ⟨b, o + 1, none⟩ = some (.int .u32 (x1 : Int)) ∧ W.cell? ⟨b, o + 2, none⟩ = some (.int .u32 (x2 : Int)) ∧ W.cell? ⟨b, o + 3, none⟩ = some (.int .u32 (x3 : Int)) := fun W hk =>
    ⟨by rw [hk.cell hb (by simp)]; exact hc 0 _ rfl, by rw [hk.cell hb (by simp)]; exact hc 1 _ rfl, by rw [hk.cell hb (by simp)]; exact hc 2 _ rfl, by rw [hk.cell hb (by simp)]; exact hc 3 _ rfl⟩
  have HE : Hid (ent4 x0 x1 x2 x3 = if (x1 : Int) = ((cplJ x0 : Nat) : Int) ∧ (x3 : Int) = ((cplJ x2 : Nat) : Int) ∧ x2 ≠ 0 ∧ x2 ≤ 1073741824 then some (x2, x0) else none) := by
    show _ = _
    unfold ent4 twinJ cplJ
    have e1 : ((x1 == 4294967295 - x0) = true) ↔ ((x1 : Int) = ((4294967295 - x0 : Nat) : Int)) := by rw [beq_iff_eq]; omega
    have e2 : ((x3 == 4294967295 - x2) = true) ↔ ((x3 : Int) = ((4294967295 - x2 : Nat) : Int)) := by rw [beq_iff_eq]; omega
    simp only [e1, e2]
  have HO0 : ∀ W, Hid (Calls Try.prog 106 #[.int .u32 (x0 : Int)] W fun e w' => e = .returned (.int .u32 ((cplJ x0 : Nat) : Int)) ∧ Keep [] W w') := fun W => (other_any x0 W h0).mono fun e w' h => ⟨h.1, h.2 ▸ Keep.refl _ _⟩
  have HO2 : ∀ W, Hid (Calls Try.prog 106 #[.int .u32 (x2 : Int)] W fun e w' => e = .returned (.int .u32 ((cplJ x2 : Nat) : Int)) ∧ Keep [] W w') := fun W => (other_any x2 W h2).mono fun e w' h => ⟨h.1, h.2 ▸ Keep.refl _ _⟩
  clear hr hc hb _h1 _h3
  generalize hy0 : ((cplJ x0 : Nat) : Int) = y0 at *
  generalize hy2 : ((cplJ x2 : Nat) : Int) = y2 at *
  clear hy0 hy2
  go_enter Try.func68, Try.ntmps68
  have KA : Keep [] w (w.alloc (.cells #[.int .u32 0, .int .u32 0] 46)) := (Keep.refl [] w).alloc _
  have hB0 := Blk.new w 46 #[.int .u32 0, .int .u32 0]
  have hF : ∀ W, Keep [] (w.alloc (.cells #[.int .u32 0, .int .u32 0] 46)) W → W.cell? ⟨b, o, none⟩ = some (.int .u32 (x0 : Int)) ∧ W.cell? ⟨b, o + 1, none⟩ = some (.int .u32 (x1 : Int)) ∧ W.cell? ⟨b, o + 2, none⟩ = some (.int .u32 (x2 : Int)) ∧ W.cell? ⟨b, o + 3, none⟩ = some (.int .u32 (x3 : Int)) := fun W hk => hcell W (KA.then hk)
  clear hcell
  go_upto_region 1 with fail
  generalize w.alloc (.cells #[.int .u32 0, .int .u32 0] 46) = w0 at *
  refine wp_region_flow (Keep [] w0) rfl (by kernel_rfl) (Keep.refl _ _).drew ?_
  iterate 6 (refine fl_val (v := ?_) (by rfl) ?_ ?_; rotate_left; (intro w' hS; obtain ⟨f0,f1,f2,f3⟩ := hF w' hS; go_simp; with_reducible rfl); simp only [Act.put, List.setIfInBounds_toArray, List.set_cons_zero, List.set_cons_succ])
  refine fl_call (f := 106) (v := .int .u32 y0) (by rfl) rfl (by simp only [List.map_toArray, List.map_cons, List.map_nil]; rfl) Try.func106 (by kernel_rfl) (by kernel_rfl) (fun w' hS => ((HO0 w').out.mono (fun e w'' h => ⟨h.1, hS.then h.2⟩))) ?_; simp only [Act.put, List.setIfInBounds_toArray, List.set_cons_zero, List.set_cons_succ]
  have hB0' := hB0
  by_cases g0 : (x1 : Int) = y0
  · have q0 : ((x1 : Int) == y0) = true := beq_iff_eq.2 g0
    have hn0 : ((x1 : Int) != y0) = false := by simp [q0, bne]
    iterate 8 (refine fl_val (v := ?_) (by rfl) ?_ ?_; rotate_left; (intro w' hS; obtain ⟨f0,f1,f2,f3⟩ := hF w' hS; go_simp; with_reducible rfl); simp only [Act.put, List.setIfInBounds_toArray, List.set_cons_zero, List.set_cons_succ])
    refine fl_call (f := 106) (v := .int .u32 y2) (by rfl) rfl (by simp only [List.map_toArray, List.map_cons, List.map_nil]; rfl) Try.func106 (by kernel_rfl) (by kernel_rfl) (fun w' hS => ((HO2 w').out.mono (fun e w'' h => ⟨h.1, hS.then h.2⟩))) ?_; simp only [Act.put, List.setIfInBounds_toArray, List.set_cons_zero, List.set_cons_succ]
    by_cases g1 : (x3 : Int) = y2
    · have q1 : ((x3 : Int) == y2) = true := beq_iff_eq.2 g1
      have hn1 : ((x3 : Int) != y2) = false := by simp [q1, bne]
      iterate 3 (refine fl_val (v := ?_) (by rfl) ?_ ?_; rotate_left; (intro w' hS; obtain ⟨f0,f1,f2,f3⟩ := hF w' hS; go_simp; with_reducible rfl); simp only [Act.put, List.setIfInBounds_toArray, List.set_cons_zero, List.set_cons_succ])
      iterate 3 (refine fl_val (v := ?_) (by rfl) ?_ ?_; rotate_left; (intro w' hS; obtain ⟨f0,f1,f2,f3⟩ := hF w' hS; go_simp; with_reducible rfl); simp only [Act.put, List.setIfInBounds_toArray, List.set_cons_zero, List.set_cons_succ])
      by_cases g2 : x2 < 1
      · have q2 : decide ((x2 : Int) < 1) = true := decide_eq_true (by omega)
        have r2 : (x2 < 1) = True := eq_true g2
        iterate 3 (refine fl_val (v := ?_) (by rfl) ?_ ?_; rotate_left; (intro w' hS; obtain ⟨f0,f1,f2,f3⟩ := hF w' hS; go_simp; with_reducible rfl); simp only [Act.put, List.setIfInBounds_toArray, List.set_cons_zero, List.set_cons_succ])
        iterate 4 (refine fl_off (by rfl) ?_; simp only [Act.put, List.setIfInBounds_toArray, List.set_cons_zero, List.set_cons_succ])
        iterate 1 (refine fl_val (v := ?_) (by rfl) ?_ ?_; rotate_left; (intro w' hS; obtain ⟨f0,f1,f2,f3⟩ := hF w' hS; go_simp; with_reducible rfl); simp only [Act.put, List.setIfInBounds_toArray, List.set_cons_zero, List.set_cons_succ])
        refine fl_nil ?_
        intro w1 hS1
        have HN : Hid (ent4 x0 x1 x2 x3 = none) := by show _ = _; rw [HE.out, if_neg (by omega)]
        go_wp2_with (refine stop_store 46 (.tmp 2) (.tmp 34) rfl ?_)
        constructor
        refine wpList_store_all rfl 46 (.tmp 2) (.tmp 34) rfl rfl rfl (vs := entC (0, 0)) agg_entry.2 (hB0.keep0 hS1) (entC_one _) rfl ?_
        intro w6 d6 k6
        go_wp2
        refine bodyPost_ret (results_cell_tmp rfl _ rfl rfl d6 agg_entry) rfl ?_
        rw [HN.out]
        exact ⟨rfl, (KA.then hS1).trans k6 (fun y hy hlt => by simp at hy; omega)⟩
      · have q2 : decide ((x2 : Int) < 1) = false := decide_eq_false (by omega)
        have r2 : (x2 < 1) = False := eq_false g2
        iterate 6 (refine fl_val (v := ?_) (by rfl) ?_ ?_; rotate_left; (intro w' hS; obtain ⟨f0,f1,f2,f3⟩ := hF w' hS; go_simp; with_reducible rfl); simp only [Act.put, List.setIfInBounds_toArray, List.set_cons_zero, List.set_cons_succ])
        by_cases g3 : 1073741824 < x2
        · have q3 : decide ((1073741824 : Int) < (x2 : Int)) = true := decide_eq_true (by omega)
          have r3 : (1073741824 < x2) = True := eq_true g3
          iterate 2 (refine fl_val (v := ?_) (by rfl) ?_ ?_; rotate_left; (intro w' hS; obtain ⟨f0,f1,f2,f3⟩ := hF w' hS; go_simp; with_reducible rfl); simp only [Act.put, List.setIfInBounds_toArray, List.set_cons_zero, List.set_cons_succ])
          refine fl_nil ?_
          intro w1 hS1
          have HN : Hid (ent4 x0 x1 x2 x3 = none) := by show _ = _; rw [HE.out, if_neg (by omega)]
          go_wp2_with (refine stop_store 46 (.tmp 2) (.tmp 34) rfl ?_)
          constructor
          refine wpList_store_all rfl 46 (.tmp 2) (.tmp 34) rfl rfl rfl (vs := entC (0, 0)) agg_entry.2 (hB0.keep0 hS1) (entC_one _) rfl ?_
          intro w6 d6 k6
          go_wp2
          refine bodyPost_ret (results_cell_tmp rfl _ rfl rfl d6 agg_entry) rfl ?_
          rw [HN.out]
          exact ⟨rfl, (KA.then hS1).trans k6 (fun y hy hlt => by simp at hy; omega)⟩
        · have q3 : decide ((1073741824 : Int) < (x2 : Int)) = false := decide_eq_false (by omega)
          have r3 : (1073741824 < x2) = False := eq_false g3
          iterate 2 (refine fl_val (v := ?_) (by rfl) ?_ ?_; rotate_left; (intro w' hS; obtain ⟨f0,f1,f2,f3⟩ := hF w' hS; go_simp; with_reducible rfl); simp only [Act.put, List.setIfInBounds_toArray, List.set_cons_zero, List.set_cons_succ])
          refine fl_nil ?_
          intro w1 hS1
          have HN : Hid (ent4 x0 x1 x2 x3 = some (x2, x0)) := by show _ = _; rw [HE.out, if_pos ⟨g0, g1, by omega, by omega⟩]
          have hF1 : ∀ W, Keep [] w1 W → W.cell? ⟨b, o, none⟩ = some (.int .u32 (x0 : Int)) ∧ W.cell? ⟨b, o + 1, none⟩ = some (.int .u32 (x1 : Int)) ∧ W.cell? ⟨b, o + 2, none⟩ = some (.int .u32 (x2 : Int)) ∧ W.cell? ⟨b, o + 3, none⟩ = some (.int .u32 (x3 : Int)) := fun W hk => hF W (hS1.then hk)
          go_upto_region 3 with fail
          refine wp_region_flow_tail 7 (Keep [] w1) rfl (by kernel_rfl) (Keep.refl _ _).drew ?_
          iterate 7 (refine fl_val (v := ?_) (by rfl) ?_ ?_; rotate_left; (intro w' hS; obtain ⟨f0,f1,f2,f3⟩ := hF1 w' hS; go_simp; with_reducible rfl); simp only [Act.put, List.setIfInBounds_toArray, List.set_cons_zero, List.set_cons_succ])
          refine fl_nil ?_
          intro w2 hS2
          refine wpList_store_all rfl 46 (.tmp 2) (.tmp 41) rfl rfl rfl (vs := entC (x2, x0)) agg_entry.2 ((hB0.keep0 hS1).keep0 hS2) (entC_one _) rfl ?_
          intro w6 d6 k6
          go_wp2
          refine bodyPost_ret (results_cell_tmp rfl _ rfl rfl d6 agg_entry) rfl ?_
          rw [HN.out]
          exact ⟨rfl, ((KA.then hS1).then hS2).trans k6 (fun y hy hlt => by simp at hy; omega)⟩
    · have q1 : ((x3 : Int) == y2) = false := beq_eq_false_iff_ne.2 g1
      have hn1 : ((x3 : Int) != y2) = true := by simp [q1, bne]
      iterate 3 (refine fl_val (v := ?_) (by rfl) ?_ ?_; rotate_left; (intro w' hS; obtain ⟨f0,f1,f2,f3⟩ := hF w' hS; go_simp; with_reducible rfl); simp only [Act.put, List.setIfInBounds_toArray, List.set_cons_zero, List.set_cons_succ])
      iterate 4 (refine fl_off (by rfl) ?_; simp only [Act.put, List.setIfInBounds_toArray, List.set_cons_zero, List.set_cons_succ])
      iterate 2 (refine fl_val (v := ?_) (by rfl) ?_ ?_; rotate_left; (intro w' hS; obtain ⟨f0,f1,f2,f3⟩ := hF w' hS; go_simp; with_reducible rfl); simp only [Act.put, List.setIfInBounds_toArray, List.set_cons_zero, List.set_cons_succ])
      iterate 4 (refine fl_off (by rfl) ?_; simp only [Act.put, List.setIfInBounds_toArray, List.set_cons_zero, List.set_cons_succ])
      iterate 1 (refine fl_val (v := ?_) (by rfl) ?_ ?_; rotate_left; (intro w' hS; obtain ⟨f0,f1,f2,f3⟩ := hF w' hS; go_simp; with_reducible rfl); simp only [Act.put, List.setIfInBounds_toArray, List.set_cons_zero, List.set_cons_succ])
      refine fl_nil ?_
      intro w1 hS1
      have HN : Hid (ent4 x0 x1 x2 x3 = none) := by show _ = _; rw [HE.out, if_neg (by exact fun h => g1 h.2.1)]
      go_wp2_with (refine stop_store 46 (.tmp 2) (.tmp 34) rfl ?_)
      constructor
      refine wpList_store_all rfl 46 (.tmp 2) (.tmp 34) rfl rfl rfl (vs := entC (0, 0)) agg_entry.2 (hB0.keep0 hS1) (entC_one _) rfl ?_
      intro w6 d6 k6
      go_wp2
      refine bodyPost_ret (results_cell_tmp rfl _ rfl rfl d6 agg_entry) rfl ?_
      rw [HN.out]
      exact ⟨rfl, (KA.then hS1).trans k6 (fun y hy hlt => by simp at hy; omega)⟩
  · have q0 : ((x1 : Int) == y0) = false := beq_eq_false_iff_ne.2 g0
    have hn0 : ((x1 : Int) != y0) = true := by simp [q0, bne]
    iterate 2 (refine fl_val (v := ?_) (by rfl) ?_ ?_; rotate_left; (intro w' hS; obtain ⟨f0,f1,f2,f3⟩ := hF w' hS; go_simp; with_reducible rfl); simp only [Act.put, List.setIfInBounds_toArray, List.set_cons_zero, List.set_cons_succ])
    iterate 8 (refine fl_off (by rfl) ?_; simp only [Act.put, List.setIfInBounds_toArray, List.set_cons_zero, List.set_cons_succ])
    iterate 2 (refine fl_val (v := ?_) (by rfl) ?_ ?_; rotate_left; (intro w' hS; obtain ⟨f0,f1,f2,f3⟩ := hF w' hS; go_simp; with_reducible rfl); simp only [Act.put, List.setIfInBounds_toArray, List.set_cons_zero, List.set_cons_succ])
    iterate 4 (refine fl_off (by rfl) ?_; simp only [Act.put, List.setIfInBounds_toArray, List.set_cons_zero, List.set_cons_succ])
    iterate 2 (refine fl_val (v := ?_) (by rfl) ?_ ?_; rotate_left; (intro w' hS; obtain ⟨f0,f1,f2,f3⟩ := hF w' hS; go_simp; with_reducible rfl); simp only [Act.put, List.setIfInBounds_toArray, List.set_cons_zero, List.set_cons_succ])
    iterate 4 (refine fl_off (by rfl) ?_; simp only [Act.put, List.setIfInBounds_toArray, List.set_cons_zero, List.set_cons_succ])
    iterate 1 (refine fl_val (v := ?_) (by rfl) ?_ ?_; rotate_left; (intro w' hS; obtain ⟨f0,f1,f2,f3⟩ := hF w' hS; go_simp; with_reducible rfl); simp only [Act.put, List.setIfInBounds_toArray, List.set_cons_zero, List.set_cons_succ])
    refine fl_nil ?_
    intro w1 hS1
    have HN : Hid (ent4 x0 x1 x2 x3 = none) := by show _ = _; rw [HE.out, if_neg (by exact fun h => g0 h.1)]
    go_wp2_with (refine stop_store 46 (.tmp 2) (.tmp 34) rfl ?_)
    constructor
    refine wpList_store_all rfl 46 (.tmp 2) (.tmp 34) rfl rfl rfl (vs := entC (0, 0)) agg_entry.2 (hB0.keep0 hS1) (entC_one _) rfl ?_
    intro w6 d6 k6
    go_wp2
    refine bodyPost_ret (results_cell_tmp rfl _ rfl rfl d6 agg_entry) rfl ?_
    rw [HN.out]
    exact ⟨rfl, (KA.then hS1).trans k6 (fun y hy hlt => by simp at hy; omega)⟩
end Go.Proofs.Yteanpgkonhdbpaa
