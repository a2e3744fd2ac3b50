/- JournalOpens, walked: where a journal is opened. No condition. -/
import Derived.Test.YteanpgkonhdbpaaJrLaw
namespace Go.Proofs.Yteanpgkonhdbpaa
open Go.RowKit

set_option maxRecDepth 100000 in
set_option maxHeartbeats 4000000 in
theorem jopens_yes (s n l b m : Nat) (w : World) (h0 : 1 ≤ s) (h1 : s ≤ 64) (h2 : 1 ≤ n) (h3 : n ≤ 1024) (h4 : s * n ≤ 5000) (h5 : l ≤ 1048576) (hm2' : 2 ≤ m) (hbm : b + m ≤ s) (h4n : 4 ≤ n) :
    Calls Try.prog 3 #[placeV s n l b m] w fun e w' => e = .returned (.bool true) ∧ Keep [] w w' := by
  have hm0 : decide ((s : Int) < 1) = false := decide_eq_false (by omega)
  have hm1 : decide ((64 : Int) < (s : Int)) = false := decide_eq_false (by omega)
  have hm2 : decide ((n : Int) < 1) = false := decide_eq_false (by omega)
  have hm3 : decide ((1024 : Int) < (n : Int)) = false := decide_eq_false (by omega)
  have hmul : (s : Int) * (n : Int) ≤ 5000 ∧ 0 ≤ (s : Int) * (n : Int) := by rw [← Int.natCast_mul]; omega
  have hm4 : decide ((5000 : Int) < (s : Int) * (n : Int)) = false := decide_eq_false (by omega)
  have hp4 : ((5000 : Int) < (s : Int) * (n : Int)) = False := eq_false (by omega)
  have hm5 : decide ((l : Int) < 0) = false := decide_eq_false (by omega)
  have hm6 : decide ((1048576 : Int) < (l : Int)) = false := decide_eq_false (by omega)
  have hp0 : (s < 1) = False := eq_false (by omega)
  have hp1 : (64 < s) = False := eq_false (by omega)
  have hp2 : (n < 1) = False := eq_false (by omega)
  have hp3 : (1024 < n) = False := eq_false (by omega)
  have hp6 : (1048576 < l) = False := eq_false (by omega)
  have hw : IntKind.i64.wrap ((s : Int) * (n : Int)) = (s : Int) * (n : Int) := IntWalk.i64_in _ (by omega)
  have HN : Hid (∀ W, Calls Try.prog 12 #[.int .i64 s, .int .i64 n, .int .i64 l] W (RetNew W (newD s n l))) := fun W => fnew_yes s n l W h0 h1 h2 h3 h5
  have hns : (newD s n l).ns = s := rfl
  obtain ⟨W0, hW0⟩ : ∃ W0, w.alloc (.cells #[.int .i64 (s : Int), .int .i64 (n : Int), .int .i64 (l : Int), .int .i64 (b : Int), .int .i64 (m : Int)] 23) = W0 := ⟨_, rfl⟩
  have K1 : Keep [] w W0 := by rw [← hW0]; exact (Keep.refl [] w).alloc _
  have B1 : Blk W0 w.heap.size 23 #[.int .i64 (s : Int), .int .i64 (n : Int), .int .i64 (l : Int), .int .i64 (b : Int), .int .i64 (m : Int)] := by rw [← hW0]; exact Blk.new _ _ _
  have hF : ∀ W, Keep [] W0 W → W.cell? ⟨w.heap.size, 0, none⟩ = some (.int .i64 (s : Int)) ∧ W.cell? ⟨w.heap.size, 1, none⟩ = some (.int .i64 (n : Int)) ∧ W.cell? ⟨w.heap.size, 2, none⟩ = some (.int .i64 (l : Int)) ∧ W.cell? ⟨w.heap.size, 3, none⟩ = some (.int .i64 (b : Int)) ∧ W.cell? ⟨w.heap.size, 4, none⟩ = some (.int .i64 (m : Int)) := fun W hk => by
    have := B1.keep hk (by simp)
    exact ⟨this.cell 0, this.cell 1, this.cell 2, this.cell 3, this.cell 4⟩
  unfold placeV
  go_enter Try.func3, Try.ntmps3
  go_upto_region 1 with fail
  clear hW0
  obtain ⟨c0, c1, c2, c3, c4⟩ := hF W0 (Keep.refl _ _)
  go_wp2_with fail
  refine (HN.out _).mono ?_
  rintro e w1 ⟨g, b1, b2, rfl, hg, hb1, hb2, hd1, k1⟩
  have hok := newD_ok s n l h0 h1 h2 h3 h5
  have HO := Lib.hid (open_yes g b1 b2 b m (newD s n l) w1 hd1 hok rfl hm2' (by show b + m ≤ s; omega) (by show 4 ≤ n; omega))
  rw [fresh_opened hbm (by omega) h4n] at HO
  have HOK := Lib.hid hok
  obtain ⟨c0, c1, c2, c3, c4⟩ := hF w1 k1
  have HK1 := Lib.hid k1
  have HD1 := Lib.hid hd1
  clear hd1 k1 hok
  go_wp2_with fail
  refine HO.out.mono ?_
  rintro e w2 ⟨gj, rfl, hgj, hj2, k2⟩
  have K2 := HK1.out.then k2
  have HJ2 := Lib.hid hj2
  have HD2 := Lib.hid (HD1.out.keep0 k2)
  clear c0 c1 c2 c3 c4 k2 hj2
  obtain ⟨c0, c1, c2, c3, c4⟩ := hF w2 K2
  go_wp2_with fail
  refine (open_nil47 (b : Int) (m : Int) w2).mono ?_
  rintro e w3 ⟨rfl, k3⟩
  have HK3 := Lib.hid (K2.then k3)
  have hd3 := HD2.out.keep0 k3
  have HJ3 := Lib.hid (HJ2.out.keep0 k3)
  clear c0 c1 c2 c3 c4 k3 K2
  obtain ⟨c0, c1, c2, c3, c4⟩ := hF w3 HK3.out
  have q0 : decide ((m : Int) < 2) = false := decide_eq_false (by omega)
  have q1 : decide ((s : Int) < (m : Int)) = false := decide_eq_false (by omega)
  have q2 : decide ((b : Int) < 0) = false := decide_eq_false (by omega)
  have q3 : decide ((s : Int) - (m : Int) < (b : Int)) = false := decide_eq_false (by omega)
  have q4 : decide ((n : Int) < 4) = false := decide_eq_false (by omega)
  have r0 : (m < 2) = False := eq_false (by omega)
  have r1 : (s < m) = False := eq_false (by omega)
  have r3 : ((s : Int) - (m : Int) < (b : Int)) = False := eq_false (by omega)
  have r4 : (n < 4) = False := eq_false (by omega)
  have hw2 : IntKind.i64.wrap ((s : Int) - (m : Int)) = (s : Int) - (m : Int) := IntWalk.i64_in _ (by omega)
  have HPW := Lib.hid (fpower_any g b1 b2 (newD s n l) false w3 hd3)
  have hge := (dev_ne hd3 HJ3.out).1
  have hgo : gj ≠ g := hge
  have hpl := B1.lt
  have hzg : W0.heap.size ≤ g := hg
  have H2m := Lib.hid hm2'
  have HBM := Lib.hid hbm
  have H4N := Lib.hid h4n
  have H1S := Lib.hid h1
  have H3N := Lib.hid h3
  clear hm2' hbm h4n hd3
  go_wp2_with fail
  refine HPW.out.mono ?_
  rintro e w4 ⟨rfl, hd4, k4⟩
  have HJ4 := Lib.hid (HJ3.out.keep k4 (by simp; exact hgo))
  have hok4 : (powerS (newD s n l) false).Ok := powerS_ok HOK.out false
  have K04 : Keep [] W0 w4 := HK3.out.trans k4 (fun y hy hlt => by simp only [List.mem_cons, List.not_mem_nil, or_false] at hy; omega)
  have HOF := Lib.hid (open_off47 g b1 b2 b m (powerS (newD s n l) false) w4 hd4 hok4 rfl H2m.out HBM.out H4N.out)
  have HD4 := Lib.hid hd4
  clear c0 c1 c2 c3 c4 k4 hd4
  obtain ⟨c0, c1, c2, c3, c4⟩ := hF w4 K04
  have HK4 := Lib.hid K04
  clear K04
  go_upto_region 14 with fail
  refine HOF.out.mono ?_
  rintro e w5 ⟨rfl, k5⟩
  have HK5 := Lib.hid (HK4.out.then k5)
  have hd5 := HD4.out.keep0 k5
  have hj5 := HJ4.out.keep0 k5
  clear c0 c1 c2 c3 c4
  have hC5 : ∀ W, Keep [] w5 W → W.cell? ⟨w.heap.size, 1, none⟩ = some (.int .i64 (n : Int)) ∧ W.cell? ⟨w.heap.size, 4, none⟩ = some (.int .i64 (m : Int)) ∧ True := fun W hk => by
    obtain ⟨_, h1, _, _, h4⟩ := hF W (HK5.out.then hk)
    exact ⟨h1, h4, trivial⟩
  have HNX : Hid (∀ W, Keep [] w5 W → Calls Try.prog 16 #[.pointer (some ⟨gj, 0, none⟩)] W fun e w' => e = .returned (.int .u32 1) ∧ Keep [] w5 w') := fun W hk =>
    (next_any47 gj g _ W (hj5.keep0 hk)).mono fun e w' he => ⟨he.1, he.2 ▸ hk⟩
  have hn4 : ((n / 4 : Nat) : Int) = (n : Int) / 4 := by omega
  have HKE : Hid (∀ W, Keep [] w5 W → Calls Try.prog 17 #[.pointer (some ⟨gj, 0, none⟩)] W fun e w' => e = .returned (.int .i64 (((m : Int) - 1) * ((n : Int) / 4))) ∧ Keep [] w5 w') := fun W hk => by
    have := keeps_any47 gj g b1 b2 _ _ W (hd5.keep0 hk) hok4 (hj5.keep0 hk) (by have := H2m.out; show 1 ≤ m; omega) (by have := HBM.out; have := H1S.out; show m ≤ 64; omega)
    refine this.mono fun e w' he => ⟨?_, hk.then he.2⟩
    rw [he.1]
    show Ending.returned (.int .i64 (((m : Int) - 1) * ((n / 4 : Nat) : Int))) = _
    rw [hn4]
  have hent : sortE (entsJ (ownW (powerS (newD s n l) false) b) m (n / 4)) = [] := by
    show sortE (entsJ (ownW (newD s n l) b) m (n / 4)) = []
    rw [fresh_ents HBM.out]
    rfl
  have HALL : Hid (∀ W, Keep [] w5 W → Calls Try.prog 18 #[.pointer (some ⟨gj, 0, none⟩)] W (RetEnts W [])) := fun W hk => by
    have := allHelp_any gj g b1 b2 _ _ W (hj5.keep0 hk) (hd5.keep0 hk) hok4 HBM.out (by show (sortE (entsJ (ownW (powerS (newD s n l) false) b) m (n / 4))).length ≤ _; rw [hent]; decide)
    have h2 : Calls Try.prog 18 #[.pointer (some ⟨gj, 0, none⟩)] W (RetEnts W (sortE (entsJ (ownW (powerS (newD s n l) false) b) m (n / 4)))) := this
    rw [hent] at h2
    exact h2
  have HAL := fun W => Lib.hid (alive_any47 W)
  have hw3 : IntKind.i64.wrap ((m : Int) - 1) = (m : Int) - 1 := IntWalk.i64_in _ (by have := H2m.out; have := HBM.out; have := H1S.out; omega)
  have hmk : (0 : Int) ≤ ((m : Int) - 1) * ((n : Int) / 4) ∧ ((m : Int) - 1) * ((n : Int) / 4) ≤ 16384 := by
    have a2 := H2m.out
    have a3 := HBM.out
    have a4 := H1S.out
    have a5 := H3N.out
    have h2 : (m - 1) * (n / 4) ≤ 64 * 256 := Nat.mul_le_mul (by omega) (by omega)
    have : ((m : Int) - 1) * ((n : Int) / 4) = (((m - 1) * (n / 4) : Nat) : Int) := by rw [Int.natCast_mul, Int.ofNat_sub (by omega)]; rfl
    omega
  have hw4 : IntKind.i64.wrap (((m : Int) - 1) * ((n : Int) / 4)) = ((m : Int) - 1) * ((n : Int) / 4) := IntWalk.i64_in _ (by omega)
  have hw5 : IntKind.i64.wrap ((n : Int) / 4) = (n : Int) / 4 := IntWalk.i64_in _ (by have := H3N.out; omega)
  have hfin : ∀ w6, Keep [] w5 w6 → Keep [] w w6 := fun w6 k6 => (K1.then HK5.out).then k6
  clear hd5 hj5 hmk k5 hn4 hent
  go_upto_region 14 with fail
  refine wp_region_flow_tail 24 (Keep [] w5) rfl (by kernel_rfl) (Keep.refl _ _).drew ?_
  iterate 8 (refine fl_val (v := ?_) (by rfl) ?_ ?_; rotate_left; (intro w' hS; obtain ⟨f0,f1,f2⟩ := hC5 w' hS; go_simp; with_reducible rfl); simp only [Act.put, List.setIfInBounds_toArray, List.set_cons_zero, List.set_cons_succ])
  refine fl_call (f := 16) (v := .int .u32 1) (by rfl) rfl (by simp only [List.map_toArray, List.map_cons, List.map_nil]; rfl) Try.func16 (by kernel_rfl) (by kernel_rfl) (fun w' hS => ((HNX.out w' hS))) ?_; simp only [Act.put, List.setIfInBounds_toArray, List.set_cons_zero, List.set_cons_succ]
  iterate 4 (refine fl_val (v := ?_) (by rfl) ?_ ?_; rotate_left; (intro w' hS; obtain ⟨f0,f1,f2⟩ := hC5 w' hS; go_simp; with_reducible rfl); simp only [Act.put, List.setIfInBounds_toArray, List.set_cons_zero, List.set_cons_succ])
  refine fl_call (f := 17) (v := .int .i64 (((m : Int) - 1) * ((n : Int) / 4))) (by rfl) rfl (by simp only [List.map_toArray, List.map_cons, List.map_nil]; rfl) Try.func17 (by kernel_rfl) (by kernel_rfl) (fun w' hS => ((HKE.out w' hS))) ?_; simp only [Act.put, List.setIfInBounds_toArray, List.set_cons_zero, List.set_cons_succ]
  iterate 10 (refine fl_val (v := ?_) (by rfl) ?_ ?_; rotate_left; (intro w' hS; obtain ⟨f0,f1,f2⟩ := hC5 w' hS; go_simp; with_reducible rfl); simp only [Act.put, List.setIfInBounds_toArray, List.set_cons_zero, List.set_cons_succ])
  refine fl_nil ?_
  intro w6 hS6
  go_wp2_with fail
  refine (HALL.out w6 hS6).mono ?_
  rintro e w7 ⟨A, c, rfl, hown, k7⟩
  go_wp2_with fail
  refine (HAL _).out.mono ?_
  rintro e w8 ⟨rfl, k8⟩
  go_wp2
  go_ret
  exact ⟨rfl, hfin w8 ((hS6.then k7).then k8)⟩
end Go.Proofs.Yteanpgkonhdbpaa
