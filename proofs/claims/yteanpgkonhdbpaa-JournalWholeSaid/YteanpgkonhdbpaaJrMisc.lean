/- A journal's Next and Keeps, and where it is not opened; walked. Condition: the device is one that may be. -/
import Derived.Test.YteanpgkonhdbpaaJrOpen
import Derived.Test.YteanpgkonhdbpaaJrAdd
namespace Go.Proofs.Yteanpgkonhdbpaa
open Go.RowKit

set_option maxRecDepth 100000 in
set_option maxHeartbeats 1000000 in
theorem next_any47 (gj g : Nat) (j : JS) (w : World) (hj : JrAt w gj g j) :
    Calls Try.prog 16 #[.pointer (some ⟨gj, 0, none⟩)] w fun e w' => e = .returned (.int .u32 (j.next : Int)) ∧ w = w' := by
  obtain ⟨_, _, _, _, _, c5⟩ := hj.cells
  clear hj
  go_enter Try.func16, Try.ntmps16
  go_wp2
  go_ret
  exact ⟨rfl, rfl⟩

set_option maxRecDepth 100000 in
set_option maxHeartbeats 1000000 in
theorem keeps_any47 (gj g b1 b2 : Nat) (d : Dev) (j : JS) (w : World) (hd : DevAt w g b1 b2 d) (ho : d.Ok) (hj : JrAt w gj g j) (hm : 1 ≤ j.many) (hm2 : j.many ≤ 64) :
    Calls Try.prog 17 #[.pointer (some ⟨gj, 0, none⟩)] w fun e w' => e = .returned (.int .i64 (((j.many : Int) - 1) * ((d.nw / 4 : Nat) : Int))) ∧ Keep [] w w' := by
  have hns := ho.ns2
  have hnw2 := ho.nw2
  have HS : Hid (∀ W, Keep [] w W → Calls Try.prog 64 #[.pointer (some ⟨gj, 0, none⟩)] W fun e w' => e = .returned (.int .i64 ((d.nw / 4 : Nat) : Int)) ∧ Keep [] w w') := fun W hk =>
    (slots_any gj g b1 b2 d j W (hd.keep0 hk) ho (hj.keep0 hk)).mono fun e w' h => ⟨h.1, h.2 ▸ hk⟩
  have hF : ∀ w', Keep [] w w' → w'.cell? ⟨gj, 2, none⟩ = some (.int .i64 (j.many : Int)) ∧ True := fun w' hk => ⟨(hj.keep0 hk).cells.2.2.1, trivial⟩
  have hw1 : IntKind.i64.wrap ((j.many : Int) - 1) = (j.many : Int) - 1 := IntWalk.i64_in _ (by omega)
  have hk4 : d.nw / 4 ≤ 256 := by omega
  generalize d.nw / 4 = K at *
  generalize j.many = m at *
  have hmul : (0 : Int) ≤ ((m : Int) - 1) * (K : Int) ∧ ((m : Int) - 1) * (K : Int) ≤ 16384 := by
    constructor
    · exact Int.mul_nonneg (by omega) (by omega)
    · have : ((m : Int) - 1) * (K : Int) = (((m - 1) * K : Nat) : Int) := by rw [Int.natCast_mul, Int.ofNat_sub hm]; rfl
      have h2 : (m - 1) * K ≤ 64 * 256 := Nat.mul_le_mul (by omega) hk4
      omega
  have hw2 : IntKind.i64.wrap (((m : Int) - 1) * (K : Int)) = ((m : Int) - 1) * (K : Int) := IntWalk.i64_in _ (by omega)
  clear hmul hd ho hj hns hnw2 hm hm2 hk4
  go_enter Try.func17, Try.ntmps17
  go_upto_region 1 with fail
  refine wp_region_flow (Keep [] w) rfl (by kernel_rfl) (Keep.refl _ _).drew ?_
  iterate 6 (refine fl_val (v := ?_) (by rfl) ?_ ?_; rotate_left; (intro w' hS; obtain ⟨f0,f1⟩ := hF w' hS; go_simp; with_reducible rfl); simp only [Act.put, List.setIfInBounds_toArray, List.set_cons_zero, List.set_cons_succ])
  refine fl_call (f := 64) (v := .int .i64 (K : Int)) (by rfl) rfl (by simp only [List.map_toArray, List.map_cons, List.map_nil]; rfl) Try.func64 (by kernel_rfl) (by kernel_rfl) (fun w' hS => ((HS.out w' hS))) ?_; simp only [Act.put, List.setIfInBounds_toArray, List.set_cons_zero, List.set_cons_succ]
  iterate 2 (refine fl_val (v := ?_) (by rfl) ?_ ?_; rotate_left; (intro w' hS; obtain ⟨f0,f1⟩ := hF w' hS; go_simp; with_reducible rfl); simp only [Act.put, List.setIfInBounds_toArray, List.set_cons_zero, List.set_cons_succ])
  refine fl_nil ?_
  intro w2 hS2
  go_wp2
  go_ret
  exact ⟨rfl, hS2⟩

set_option maxRecDepth 100000 in
set_option maxHeartbeats 1000000 in
theorem open_nil47 (base many : Int) (w : World) :
    Calls Try.prog 13 #[.pointer none, .int .i64 base, .int .i64 many] w fun e w' => e = .returned (.tuple #[.pointer none, .int .i64 64]) ∧ Keep [] w w' := by
  rw [← callsIn_wide (n := 9)]
  refine callsIn_of_wp_marks Try.func13 rfl trivial ?_ rfl
  simp only [Try.ntmps13, List.size_toArray, List.length_cons, List.length_nil, Nat.reduceAdd, Nat.reduceSub, Array.replicate_succ, Array.replicate_zero, List.push_toArray, List.append_toArray, List.nil_append, List.cons_append]
  gi_wp2_with (refine ⟨trivial, ?_⟩; skip)
  refine leavesM_marksJ [] w List.nodup_nil (fun D hD => absurd hD (by simp)) (fun W' hk => ?_)
  exact ⟨_, by simp [results, Try.results13, go_sem], rfl, hk⟩

set_option maxRecDepth 100000 in
set_option maxHeartbeats 2000000 in
theorem open_no47 (g b1 b2 : Nat) (base many : Int) (d : Dev) (w : World) (hd : DevAt w g b1 b2 d) (ho : d.Ok) (hno : many < 2 ∨ 64 < many ∨ base < 0 ∨ (d.ns : Int) - many < base ∨ d.nw < 4) :
    Calls Try.prog 13 #[.pointer (some ⟨g, 0, none⟩), .int .i64 base, .int .i64 many] w fun e w' => e = .returned (.tuple #[.pointer none, .int .i64 64]) ∧ Keep [] w w' := by
  have hns := ho.ns2
  have HSE := Lib.hid (fsectors_any g b1 b2 d w hd ho)
  have HWO := Lib.hid (fwords_any g b1 b2 d w hd)
  generalize d.ns = ns at *
  generalize d.nw = nw at *
  clear hd ho
  rw [← callsIn_wide (n := 9)]
  refine callsIn_of_wp_marks Try.func13 rfl trivial ?_ rfl
  simp only [Try.ntmps13, List.size_toArray, List.length_cons, List.length_nil, Nat.reduceAdd, Nat.reduceSub, Array.replicate_succ, Array.replicate_zero, List.push_toArray, List.append_toArray, List.nil_append, List.cons_append]
  by_cases h0 : many < 2
  · have q0 : decide (many < 2) = true := decide_eq_true h0
    gi_wp2_with (refine ⟨trivial, ?_⟩; skip)
    refine leavesM_marksJ [] w List.nodup_nil (fun D hD => absurd hD (by simp)) (fun W' hk => ?_)
    exact ⟨_, by simp [results, Try.results13, go_sem], rfl, hk⟩
  have q0 : decide (many < 2) = false := decide_eq_false h0
  by_cases h1 : 64 < many
  · have q1 : decide (64 < many) = true := decide_eq_true h1
    gi_wp2_with (refine ⟨trivial, ?_⟩; skip)
    refine leavesM_marksJ [] w List.nodup_nil (fun D hD => absurd hD (by simp)) (fun W' hk => ?_)
    exact ⟨_, by simp [results, Try.results13, go_sem], rfl, hk⟩
  have q1 : decide (64 < many) = false := decide_eq_false h1
  by_cases h2 : base < 0
  · have q2 : decide (base < 0) = true := decide_eq_true h2
    gi_wp2_with (refine ⟨trivial, ?_⟩; skip)
    refine leavesM_marksJ [] w List.nodup_nil (fun D hD => absurd hD (by simp)) (fun W' hk => ?_)
    exact ⟨_, by simp [results, Try.results13, go_sem], rfl, hk⟩
  have q2 : decide (base < 0) = false := decide_eq_false h2
  have q5 : IntKind.i64.wrap ((ns : Int) - many) = (ns : Int) - many := IntWalk.i64_in _ (by omega)
  by_cases h3 : (ns : Int) - many < base
  · have q3 : decide ((ns : Int) - many < base) = true := decide_eq_true h3
    gi_wp2_with (first
    | (refine ⟨trivial, ?_⟩; refine (callsIn_wide.2 HSE.out).mono ?_; rintro e w1 ⟨rfl, rfl⟩)
    | (refine ⟨trivial, ?_⟩; skip))
    refine leavesM_marksJ [] w List.nodup_nil (fun D hD => absurd hD (by simp)) (fun W' hk => ?_)
    exact ⟨_, by simp [results, Try.results13, go_sem], rfl, hk⟩
  have q3 : decide ((ns : Int) - many < base) = false := decide_eq_false h3
  have q4 : decide ((nw : Int) < 4) = true := decide_eq_true (by omega)
  have q4n : (nw < 4) = True := eq_true (by omega)
  gi_wp2_with (first
    | (refine ⟨trivial, ?_⟩; refine (callsIn_wide.2 HSE.out).mono ?_; rintro e w1 ⟨rfl, rfl⟩)
    | (refine ⟨trivial, ?_⟩; refine (callsIn_wide.2 HWO.out).mono ?_; rintro e w1 ⟨rfl, rfl⟩))
  refine leavesM_marksJ [] w List.nodup_nil (fun D hD => absurd hD (by simp)) (fun W' hk => ?_)
  exact ⟨_, by simp [results, Try.results13, go_sem], rfl, hk⟩

set_option maxRecDepth 100000 in
set_option maxHeartbeats 2000000 in
theorem open_off47 (g b1 b2 base many : Nat) (d : Dev) (w : World) (hd : DevAt w g b1 b2 d) (ho : d.Ok) (hon : d.on = false) (h2 : 2 ≤ many) (hb : base + many ≤ d.ns) (h4 : 4 ≤ d.nw) :
    Calls Try.prog 13 #[.pointer (some ⟨g, 0, none⟩), .int .i64 (base : Int), .int .i64 (many : Int)] w fun e w' => e = .returned (.tuple #[.pointer none, .int .i64 63]) ∧ Keep [] w w' := by
  have hns := ho.ns2
  have q0 : decide ((many : Int) < 2) = false := decide_eq_false (by omega)
  have q1 : decide ((64 : Int) < (many : Int)) = false := decide_eq_false (by omega)
  have q2 : decide ((base : Int) < 0) = false := decide_eq_false (by omega)
  have q3 : decide ((d.ns : Int) - (many : Int) < (base : Int)) = false := decide_eq_false (by omega)
  have q4 : decide ((d.nw : Int) < 4) = false := decide_eq_false (by omega)
  have q5 : IntKind.i64.wrap ((d.ns : Int) - (many : Int)) = (d.ns : Int) - (many : Int) := IntWalk.i64_in _ (by omega)
  have HSE := Lib.hid (fsectors_any g b1 b2 d w hd ho)
  have HWO := Lib.hid (fwords_any g b1 b2 d w hd)
  have HON := Lib.hid (fon_any g b1 b2 d w hd)
  rw [hon] at HON
  generalize d.ns = ns at *
  generalize d.nw = nw at *
  clear hd ho hon h2 hb h4
  rw [← callsIn_wide (n := 9)]
  refine callsIn_of_wp_marks Try.func13 rfl trivial ?_ rfl
  simp only [Try.ntmps13, List.size_toArray, List.length_cons, List.length_nil, Nat.reduceAdd, Nat.reduceSub, Array.replicate_succ, Array.replicate_zero, List.push_toArray, List.append_toArray, List.nil_append, List.cons_append]
  gi_wp2_with (first
    | (refine ⟨trivial, ?_⟩; refine (callsIn_wide.2 HSE.out).mono ?_; rintro e w1 ⟨rfl, rfl⟩)
    | (refine ⟨trivial, ?_⟩; refine (callsIn_wide.2 HWO.out).mono ?_; rintro e w1 ⟨rfl, rfl⟩)
    | (refine ⟨trivial, ?_⟩; refine (callsIn_wide.2 HON.out).mono ?_; rintro e w1 ⟨rfl, rfl⟩))
  refine leavesM_marksJ [] w List.nodup_nil (fun D hD => absurd hD (by simp)) (fun W' hk => ?_)
  exact ⟨_, by simp [results, Try.results13, go_sem], rfl, hk⟩
end Go.Proofs.Yteanpgkonhdbpaa
