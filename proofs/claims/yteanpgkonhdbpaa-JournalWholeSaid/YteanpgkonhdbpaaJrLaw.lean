/- JournalOpens, walked; a fresh device's journal. No condition. -/
import Derived.Test.YteanpgkonhdbpaaJrAlive
namespace Go.Proofs.Yteanpgkonhdbpaa
open Go.RowKit

theorem fresh_wd {s n l base s' q : Nat} (h : base + s' < s) (hq : q < n) : ownW (newD s n l) base s' q = 4294967295 := by
  show (List.replicate (s * n) 4294967295).getD ((base + s') * n + q) 0 = _
  have h1 : (base + s') * n + n ≤ s * n := by
    rw [← Nat.succ_mul]
    exact Nat.mul_le_mul_right n h
  rw [List.getD_eq_getElem?_getD, List.getElem?_replicate, if_pos (by omega)]
  rfl
theorem fresh_ent {s n l base s' a : Nat} (h : base + s' < s) (ha : a < n / 4) : entJ (ownW (newD s n l) base) s' a = none := by
  unfold entJ
  rw [fresh_wd h (show a * 4 < n by omega), fresh_wd h (show a * 4 + 1 < n by omega), fresh_wd h (show a * 4 + 2 < n by omega), fresh_wd h (show a * 4 + 3 < n by omega)]
  rfl
theorem fresh_sect {s n l base s' : Nat} (h : base + s' < s) : sectE (ownW (newD s n l) base) s' (n / 4) = [] := by
  unfold sectE
  rw [List.filterMap_eq_nil_iff]
  intro a ha
  rw [fresh_ent h (List.mem_range.1 ha)]
  rfl
theorem fresh_fold {s n l base : Nat} : ∀ m, base + m ≤ s → foldJ (ownW (newD s n l) base) (n / 4) m = (1, 0, 0)
  | 0, _ => rfl
  | m + 1, h => by
    show (sectE (ownW (newD s n l) base) m (n / 4)).foldl (seeJ m) (foldJ (ownW (newD s n l) base) (n / 4) m) = _
    rw [fresh_sect (by omega), fresh_fold m (by omega)]
    rfl
theorem fresh_ents {s n l base m : Nat} (h : base + m ≤ s) : entsJ (ownW (newD s n l) base) m (n / 4) = [] := by
  unfold entsJ
  rw [List.flatMap_eq_nil_iff]
  intro x hx
  rw [fresh_sect (by have := List.mem_range.1 hx; omega)]
  rfl
theorem fresh_skip {s n l base : Nat} (h : base < s) (h4 : 4 ≤ n) : ∀ f, skipJ (ownW (newD s n l) base) 0 (n / 4) f 0 = 0
  | 0 => rfl
  | f + 1 => by
    have hb : blank4 (ownW (newD s n l) base) 0 0 = true := by
      unfold blank4
      rw [fresh_wd h (show 0 * 4 < n by omega), fresh_wd h (show 0 * 4 + 1 < n by omega), fresh_wd h (show 0 * 4 + 2 < n by omega), fresh_wd h (show 0 * 4 + 3 < n by omega)]
      rfl
    unfold skipJ
    rw [if_neg (fun hh => by rw [hb] at hh; exact absurd hh.2 (by decide))]
theorem fresh_opened {s n l base m : Nat} (h : base + m ≤ s) (hm : 1 ≤ m) (h4 : 4 ≤ n) : openedJ (newD s n l) base m = ⟨base, m, 0, 0, 1⟩ := by
  have ho : openJ (ownW (newD s n l) base) m (n / 4) = (1, 0, 0) := by
    unfold openJ
    rw [fresh_fold m h]
    show (1, 0, skipJ (ownW (newD s n l) base) 0 (n / 4) (n / 4) 0) = _
    rw [fresh_skip (by omega) h4]
  unfold openedJ
  rw [show (newD s n l).nw / 4 = n / 4 from rfl, ho]
/-- A place's value. -/
def placeV (s n l b m : Int) : Value := .agg #[.int .i64 s, .int .i64 n, .int .i64 l, .int .i64 b, .int .i64 m]

set_option maxRecDepth 100000 in
set_option maxHeartbeats 4000000 in
theorem jopens_no (s n l b m : Int) (w : World) (hno : s < 1 ∨ 64 < s ∨ n < 1 ∨ 1024 < n ∨ 5000 < s * n ∨ l < 0 ∨ 1048576 < l) :
    Calls Try.prog 3 #[placeV s n l b m] w fun e w' => e = .returned (.bool true) ∧ Keep [] w w' := by
  have K1 := (Keep.refl [] w).alloc (.cells #[.int .i64 s, .int .i64 n, .int .i64 l, .int .i64 b, .int .i64 m] 23)
  unfold placeV
  go_enter Try.func3, Try.ntmps3
  by_cases h0 : s < 1
  · have q0 : decide (s < 1) = true := decide_eq_true h0
    have p0 := eq_true h0
    go_wp2_with fail
    go_ret
    exact ⟨rfl, K1⟩
  have q0 : decide (s < 1) = false := decide_eq_false h0
  have p0 := eq_false h0
  by_cases h1 : 64 < s
  · have q1 : decide (64 < s) = true := decide_eq_true h1
    have p1 := eq_true h1
    go_wp2_with fail
    go_ret
    exact ⟨rfl, K1⟩
  have q1 : decide (64 < s) = false := decide_eq_false h1
  have p1 := eq_false h1
  by_cases h2 : n < 1
  · have q2 : decide (n < 1) = true := decide_eq_true h2
    have p2 := eq_true h2
    go_wp2_with fail
    go_ret
    exact ⟨rfl, K1⟩
  have q2 : decide (n < 1) = false := decide_eq_false h2
  have p2 := eq_false h2
  by_cases h3 : 1024 < n
  · have q3 : decide (1024 < n) = true := decide_eq_true h3
    have p3 := eq_true h3
    go_wp2_with fail
    go_ret
    exact ⟨rfl, K1⟩
  have q3 : decide (1024 < n) = false := decide_eq_false h3
  have p3 := eq_false h3
  have hmul : 0 ≤ s * n ∧ s * n ≤ 65536 := by
    obtain ⟨s', rfl⟩ : ∃ k : Nat, s = (k : Int) := ⟨s.toNat, by omega⟩
    obtain ⟨n', rfl⟩ : ∃ k : Nat, n = (k : Int) := ⟨n.toNat, by omega⟩
    have := Nat.mul_le_mul (show s' ≤ 64 by omega) (show n' ≤ 1024 by omega)
    rw [← Int.natCast_mul]
    omega
  have hw : IntKind.i64.wrap (s * n) = s * n := IntWalk.i64_in _ (by omega)
  by_cases h4 : 5000 < s * n
  · have q4 : decide (5000 < s * n) = true := decide_eq_true h4
    have p4 := eq_true h4
    go_wp2_with fail
    go_ret
    exact ⟨rfl, K1⟩
  have q4 : decide (5000 < s * n) = false := decide_eq_false h4
  have p4 := eq_false h4
  by_cases h5 : l < 0
  · have q5 : decide (l < 0) = true := decide_eq_true h5
    have p5 := eq_true h5
    go_wp2_with fail
    go_ret
    exact ⟨rfl, K1⟩
  have q5 : decide (l < 0) = false := decide_eq_false h5
  have p5 := eq_false h5
  have q6 : decide (1048576 < l) = true := decide_eq_true (by omega)
  have p6 := eq_true (show 1048576 < l by omega)
  go_wp2_with fail
  go_ret
  exact ⟨rfl, K1⟩

set_option maxRecDepth 100000 in
set_option maxHeartbeats 4000000 in
theorem jopens_bad (s n l : Nat) (b m : Int) (w : World) (h0 : 1 ≤ s) (h1 : s ≤ 64) (h2 : 1 ≤ n) (h3 : n ≤ 1024) (h4 : s * n ≤ 5000) (h5 : l ≤ 1048576) (hbad : m < 2 ∨ (s : Int) < m ∨ b < 0 ∨ (s : Int) - m < b ∨ n < 4) :
    Calls Try.prog 3 #[placeV s n l b m] w fun e w' => e = .returned (.bool true) ∧ Keep [] w w' := by
  have hm0 : decide ((s : Int) < 1) = false := decide_eq_false (by omega)
  have hm1 : decide ((64 : Int) < (s : Int)) = false := decide_eq_false (by omega)
  have hm2 : decide ((n : Int) < 1) = false := decide_eq_false (by omega)
  have hm3 : decide ((1024 : Int) < (n : Int)) = false := decide_eq_false (by omega)
  have hmul : (s : Int) * (n : Int) ≤ 5000 ∧ 0 ≤ (s : Int) * (n : Int) := by rw [← Int.natCast_mul]; omega
  have hm4 : decide ((5000 : Int) < (s : Int) * (n : Int)) = false := decide_eq_false (by omega)
  have hp4 : ((5000 : Int) < (s : Int) * (n : Int)) = False := eq_false (by omega)
  have hm5 : decide ((l : Int) < 0) = false := decide_eq_false (by omega)
  have hm6 : decide ((1048576 : Int) < (l : Int)) = false := decide_eq_false (by omega)
  have hp0 : (s < 1) = False := eq_false (by omega)
  have hp1 : (64 < s) = False := eq_false (by omega)
  have hp2 : (n < 1) = False := eq_false (by omega)
  have hp3 : (1024 < n) = False := eq_false (by omega)
  have hp6 : (1048576 < l) = False := eq_false (by omega)
  have hw : IntKind.i64.wrap ((s : Int) * (n : Int)) = (s : Int) * (n : Int) := IntWalk.i64_in _ (by omega)
  have HN : Hid (∀ W, Calls Try.prog 12 #[.int .i64 s, .int .i64 n, .int .i64 l] W (RetNew W (newD s n l))) := fun W => fnew_yes s n l W h0 h1 h2 h3 h5
  have hns : (newD s n l).ns = s := rfl
  obtain ⟨W0, hW0⟩ : ∃ W0, w.alloc (.cells #[.int .i64 (s : Int), .int .i64 (n : Int), .int .i64 (l : Int), .int .i64 b, .int .i64 m] 23) = W0 := ⟨_, rfl⟩
  have K1 : Keep [] w W0 := by rw [← hW0]; exact (Keep.refl [] w).alloc _
  have B1 : Blk W0 w.heap.size 23 #[.int .i64 (s : Int), .int .i64 (n : Int), .int .i64 (l : Int), .int .i64 b, .int .i64 m] := by rw [← hW0]; exact Blk.new _ _ _
  have hF : ∀ W, Keep [] W0 W → W.cell? ⟨w.heap.size, 0, none⟩ = some (.int .i64 (s : Int)) ∧ W.cell? ⟨w.heap.size, 1, none⟩ = some (.int .i64 (n : Int)) ∧ W.cell? ⟨w.heap.size, 2, none⟩ = some (.int .i64 (l : Int)) ∧ W.cell? ⟨w.heap.size, 3, none⟩ = some (.int .i64 b) ∧ W.cell? ⟨w.heap.size, 4, none⟩ = some (.int .i64 m) := fun W hk => by
    have := B1.keep hk (by simp)
    exact ⟨this.cell 0, this.cell 1, this.cell 2, this.cell 3, this.cell 4⟩
  unfold placeV
  go_enter Try.func3, Try.ntmps3
  go_upto_region 1 with fail
  clear hW0
  obtain ⟨c0, c1, c2, c3, c4⟩ := hF W0 (Keep.refl _ _)
  go_wp2_with fail
  refine (HN.out _).mono ?_
  rintro e w1 ⟨g, b1, b2, rfl, hg, hb1, hb2, hd1, k1⟩
  have HO := Lib.hid (open_no47 g b1 b2 b m (newD s n l) w1 hd1 (newD_ok s n l h0 h1 h2 h3 h5) (by show m < 2 ∨ 64 < m ∨ b < 0 ∨ (s : Int) - m < b ∨ n < 4; omega))
  obtain ⟨c0, c1, c2, c3, c4⟩ := hF w1 k1
  have HK1 := Lib.hid k1
  clear hd1 k1
  go_wp2_with fail
  refine HO.out.mono ?_
  rintro e w2 ⟨rfl, k2⟩
  have K2 := HK1.out.then k2
  clear c0 c1 c2 c3 c4 k2
  obtain ⟨c0, c1, c2, c3, c4⟩ := hF w2 K2
  go_wp2_with fail
  refine (open_nil47 b m w2).mono ?_
  rintro e w3 ⟨rfl, k3⟩
  have K3 := K2.then k3
  clear c0 c1 c2 c3 c4 k3 K2
  obtain ⟨c0, c1, c2, c3, c4⟩ := hF w3 K3
  have HAL := fun W => Lib.hid (alive_any47 W)
  have hfin : ∀ w4, Keep [] w3 w4 → Keep [] w w4 := fun w4 k4 => (K1.then K3).then k4
  clear HK1 HO hg hb1 hb2 K3
  by_cases g0 : m < 2
  · have q0 : decide (m < 2) = true := decide_eq_true g0
    have r0 := eq_true g0
    clear hbad g0
    go_wp2_with fail
    refine (HAL _).out.mono ?_
    rintro e w4 ⟨rfl, k4⟩
    go_wp2
    go_ret
    exact ⟨rfl, hfin w4 k4⟩
  have q0 : decide (m < 2) = false := decide_eq_false g0
  have r0 := eq_false g0
  by_cases g1 : (s : Int) < m
  · have q1 : decide ((s : Int) < m) = true := decide_eq_true g1
    have r1 := eq_true g1
    clear hbad g1
    go_wp2_with fail
    refine (HAL _).out.mono ?_
    rintro e w4 ⟨rfl, k4⟩
    go_wp2
    go_ret
    exact ⟨rfl, hfin w4 k4⟩
  have q1 : decide ((s : Int) < m) = false := decide_eq_false g1
  have r1 := eq_false g1
  by_cases g2 : b < 0
  · have q2 : decide (b < 0) = true := decide_eq_true g2
    have r2 := eq_true g2
    clear hbad g2
    go_wp2_with fail
    refine (HAL _).out.mono ?_
    rintro e w4 ⟨rfl, k4⟩
    go_wp2
    go_ret
    exact ⟨rfl, hfin w4 k4⟩
  have q2 : decide (b < 0) = false := decide_eq_false g2
  have r2 := eq_false g2
  have hw2 : IntKind.i64.wrap ((s : Int) - m) = (s : Int) - m := IntWalk.i64_in _ (by omega)
  by_cases g3 : (s : Int) - m < b
  · have q3 : decide ((s : Int) - m < b) = true := decide_eq_true g3
    have r3 := eq_true g3
    clear hbad g3
    go_wp2_with fail
    refine (HAL _).out.mono ?_
    rintro e w4 ⟨rfl, k4⟩
    go_wp2
    go_ret
    exact ⟨rfl, hfin w4 k4⟩
  have q3 : decide ((s : Int) - m < b) = false := decide_eq_false g3
  have r3 := eq_false g3
  have q4 : decide ((n : Int) < 4) = true := decide_eq_true (by omega)
  have r4 : (n < 4) = True := eq_true (by omega)
  go_wp2_with fail
  refine (HAL _).out.mono ?_
  rintro e w4 ⟨rfl, k4⟩
  go_wp2
  go_ret
  exact ⟨rfl, hfin w4 k4⟩


end Go.Proofs.Yteanpgkonhdbpaa
