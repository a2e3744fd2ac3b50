/- Numbers from 0 to 2^40: sums, products, quotients, differences; no program in sight. What check's functions answer. What the document's own numbers answer (layer 2). One term's work (demand, and the document's layer 16). One term's work, by the document (layer 16); the term of a task. The term of a task. Sums of rows, by the document (layer 2). The work of several terms, by the document (layer 16). -/
import Derived.Test.YtnnnjcgddmhdmaaGreatDoorBase
import Derived.Test.YtnnnjcgddmhdmaaGreatDoorRows
import Derived.Test.YtnnnjcgddmhdmaaGreatDoorReg
import Derived.WalkKit
import Derived.WalkSpells
import Derived.WalkLawsBesides
import Derived.Test.YtnnnjcgddmhdmaaGreatDoorImgMem
import Derived.Test.YtnnnjcgddmhdmaaGreatDoorIter
namespace Go.Proofs.YtnnnjcgddmhdmaaGreatDoor

def inM (n : Int) : Bool := decide (0 ≤ n) && decide (n ≤ 1099511627776)
def addM (a b : Int) : Option Int := if inM a && inM b && decide (a + b ≤ 1099511627776) then some (a + b) else none
def mulM (a b : Int) : Option Int := if inM a && inM b && decide (a * b ≤ 1099511627776) then some (a * b) else none
def upM (a b : Int) : Option Int := if inM a && inM b && !(b == 0) then some (if a = 0 then 0 else (a - 1) / b + 1) else none
def lessM (a b : Int) : Option Int := if inM a && inM b then some (max (a - b) 0) else none
def numRes (r : Option Int) : Value := .tuple #[.int .i64 (r.getD 0), .bool r.isSome]
theorem inM_iff {n : Int} : inM n = true ↔ 0 ≤ n ∧ n ≤ 1099511627776 := by unfold inM; simp
theorem inM_no {n : Int} : inM n = false ↔ n < 0 ∨ 1099511627776 < n := by
  rw [← Bool.not_eq_true, inM_iff]; omega
theorem mul_over (a b : Int) (_ha : 0 ≤ a) (hb : 0 < b) : 1099511627776 / b < a ↔ 1099511627776 < a * b := by
  constructor
  · intro h
    exact (Int.ediv_lt_iff_lt_mul hb).1 h
  · intro h
    exact (Int.ediv_lt_iff_lt_mul hb).2 h
end Go.Proofs.YtnnnjcgddmhdmaaGreatDoor

namespace Go.Proofs.YtnnnjcgddmhdmaaGreatDoor
open Go.RowKit

theorem cin_any (n : Int) (w : World) : Calls Tryz.prog 100 #[.int .i64 n] w fun e w' => e = .returned (.bool (inM n)) ∧ w = w' := by
  have hc : (n < 0) ∨ (0 ≤ n ∧ 1099511627776 < n) ∨ (0 ≤ n ∧ n ≤ 1099511627776) := by omega
  have HI : Hid (inM n = (decide (0 ≤ n) && decide (n ≤ 1099511627776))) := show _ = _ from rfl
  rcases hc with h | ⟨h1, h2⟩ | ⟨h1, h2⟩
  all_goals
    go_enter Tryz.func100, Tryz.ntmps100
    go_wp2
    go_ret
    exact ⟨by rw [HI.out]; simp <;> omega, rfl⟩

set_option maxRecDepth 100000 in
set_option maxHeartbeats 1000000 in
theorem cadd_any (a b : Int) (w : World) : Calls Tryz.prog 96 #[.int .i64 a, .int .i64 b] w fun e w' => e = .returned (numRes (addM a b)) ∧ w = w' := by
  cases ha : inM a
  · have HR : Hid (numRes (addM a b) = .tuple #[.int .i64 0, .bool false]) := by show _ = _; unfold addM; rw [ha]; rfl
    go_enter Tryz.func96, Tryz.ntmps96
    go_wp2_with (refine (cin_any _ _).mono ?_; rintro e w' ⟨rfl, rfl⟩)
    go_ret2
    exact ⟨by rw [HR.out]; rfl, rfl⟩
  cases hb : inM b
  · have HR : Hid (numRes (addM a b) = .tuple #[.int .i64 0, .bool false]) := by show _ = _; unfold addM; rw [ha, hb]; rfl
    go_enter Tryz.func96, Tryz.ntmps96
    go_wp2_with (refine (cin_any _ _).mono ?_; rintro e w' ⟨rfl, rfl⟩)
    go_ret2
    exact ⟨by rw [HR.out]; rfl, rfl⟩
  obtain ⟨a1, a2⟩ := inM_iff.1 ha
  obtain ⟨b1, b2⟩ := inM_iff.1 hb
  rcases Int.lt_or_le (1099511627776 - a) b with h | h
  · have HR : Hid (numRes (addM a b) = .tuple #[.int .i64 0, .bool false]) := by show _ = _; unfold addM; rw [ha, hb, if_neg (by simp; omega)]; rfl
    go_enter Tryz.func96, Tryz.ntmps96
    go_wp2_with (refine (cin_any _ _).mono ?_; rintro e w' ⟨rfl, rfl⟩)
    go_ret2
    exact ⟨by rw [HR.out]; rfl, rfl⟩
  · have HR : Hid (numRes (addM a b) = .tuple #[.int .i64 (a + b), .bool true]) := by show _ = _; unfold addM; rw [ha, hb, if_pos (by simp; omega)]; rfl
    go_enter Tryz.func96, Tryz.ntmps96
    go_wp2_with (refine (cin_any _ _).mono ?_; rintro e w' ⟨rfl, rfl⟩)
    go_ret2
    exact ⟨by rw [HR.out]; rfl, rfl⟩

set_option maxRecDepth 100000 in
set_option maxHeartbeats 1000000 in
theorem cless_any (a b : Int) (w : World) : Calls Tryz.prog 106 #[.int .i64 a, .int .i64 b] w fun e w' => e = .returned (numRes (lessM a b)) ∧ w = w' := by
  cases ha : inM a
  · have HR : Hid (numRes (lessM a b) = .tuple #[.int .i64 0, .bool false]) := by show _ = _; unfold lessM; rw [ha]; rfl
    go_enter Tryz.func106, Tryz.ntmps106
    go_wp2_with (refine (cin_any _ _).mono ?_; rintro e w' ⟨rfl, rfl⟩)
    go_ret2
    exact ⟨by rw [HR.out]; rfl, rfl⟩
  cases hb : inM b
  · have HR : Hid (numRes (lessM a b) = .tuple #[.int .i64 0, .bool false]) := by show _ = _; unfold lessM; rw [ha, hb]; rfl
    go_enter Tryz.func106, Tryz.ntmps106
    go_wp2_with (refine (cin_any _ _).mono ?_; rintro e w' ⟨rfl, rfl⟩)
    go_ret2
    exact ⟨by rw [HR.out]; rfl, rfl⟩
  obtain ⟨a1, a2⟩ := inM_iff.1 ha
  obtain ⟨b1, b2⟩ := inM_iff.1 hb
  rcases Int.lt_or_le (a - b) 0 with h | h
  · have HR : Hid (numRes (lessM a b) = .tuple #[.int .i64 0, .bool true]) := by show _ = _; unfold lessM; rw [ha, hb, show max (a - b) 0 = 0 by omega]; rfl
    go_enter Tryz.func106, Tryz.ntmps106
    go_wp2_with (refine (cin_any _ _).mono ?_; rintro e w' ⟨rfl, rfl⟩)
    go_ret2
    exact ⟨by rw [HR.out]; rfl, rfl⟩
  · have HR : Hid (numRes (lessM a b) = .tuple #[.int .i64 (a - b), .bool true]) := by show _ = _; unfold lessM; rw [ha, hb, show max (a - b) 0 = a - b by omega]; rfl
    go_enter Tryz.func106, Tryz.ntmps106
    go_wp2_with (refine (cin_any _ _).mono ?_; rintro e w' ⟨rfl, rfl⟩)
    go_ret2
    exact ⟨by rw [HR.out]; rfl, rfl⟩

set_option maxRecDepth 100000 in
set_option maxHeartbeats 1000000 in
theorem cup_any (a b : Int) (w : World) : Calls Tryz.prog 107 #[.int .i64 a, .int .i64 b] w fun e w' => e = .returned (numRes (upM a b)) ∧ w = w' := by
  cases ha : inM a
  · have HR : Hid (numRes (upM a b) = .tuple #[.int .i64 0, .bool false]) := by show _ = _; unfold upM; rw [ha]; rfl
    go_enter Tryz.func107, Tryz.ntmps107
    go_wp2_with (refine (cin_any _ _).mono ?_; rintro e w' ⟨rfl, rfl⟩)
    go_ret2
    exact ⟨by rw [HR.out]; rfl, rfl⟩
  cases hb : inM b
  · have HR : Hid (numRes (upM a b) = .tuple #[.int .i64 0, .bool false]) := by show _ = _; unfold upM; rw [ha, hb]; rfl
    go_enter Tryz.func107, Tryz.ntmps107
    go_wp2_with (refine (cin_any _ _).mono ?_; rintro e w' ⟨rfl, rfl⟩)
    go_ret2
    exact ⟨by rw [HR.out]; rfl, rfl⟩
  obtain ⟨a1, a2⟩ := inM_iff.1 ha
  obtain ⟨b1, b2⟩ := inM_iff.1 hb
  by_cases hb0 : b = 0
  · have HR : Hid (numRes (upM a b) = .tuple #[.int .i64 0, .bool false]) := by show _ = _; unfold upM; rw [ha, hb, hb0]; rfl
    have hbb : (b == 0) = true := by simp [hb0]
    clear hb0
    go_enter Tryz.func107, Tryz.ntmps107
    go_wp2_with (refine (cin_any _ _).mono ?_; rintro e w' ⟨rfl, rfl⟩)
    go_ret2
    exact ⟨by rw [HR.out]; rfl, rfl⟩
  have hbb : (b == 0) = false := by simp [hb0]
  by_cases ha0 : a = 0
  · have HR : Hid (numRes (upM a b) = .tuple #[.int .i64 0, .bool true]) := by show _ = _; unfold upM; rw [ha, hb, hbb]; simp only [Bool.not_false, Bool.and_self, if_true, if_pos ha0]; rfl
    have haa : (a == 0) = true := by simp [ha0]
    clear hb0 ha0
    go_enter Tryz.func107, Tryz.ntmps107
    go_wp2_with (refine (cin_any _ _).mono ?_; rintro e w' ⟨rfl, rfl⟩)
    go_ret2
    exact ⟨by rw [HR.out]; rfl, rfl⟩
  · have HR : Hid (numRes (upM a b) = .tuple #[.int .i64 ((a - 1) / b + 1), .bool true]) := by show _ = _; unfold upM; rw [ha, hb, hbb]; simp only [Bool.not_false, Bool.and_self, if_true, if_neg ha0]; rfl
    have haa : (a == 0) = false := by simp [ha0]
    have h1 : 0 ≤ a - 1 := by omega
    have h2 : 1 ≤ a := by omega
    have h3 : 0 < b := by omega
    have h4 : 0 ≤ (a - 1) / b := Int.ediv_nonneg h1 b1
    have h5 : (a - 1) / b ≤ 1099511627776 := by have := Int.ediv_le_self b h1; omega
    clear hb0 ha0
    go_enter Tryz.func107, Tryz.ntmps107
    go_wp2_with (refine (cin_any _ _).mono ?_; rintro e w' ⟨rfl, rfl⟩)
    go_ret2
    exact ⟨by rw [HR.out]; rfl, rfl⟩

set_option maxRecDepth 100000 in
set_option maxHeartbeats 1000000 in
theorem cmul_any (a b : Int) (w : World) : Calls Tryz.prog 105 #[.int .i64 a, .int .i64 b] w fun e w' => e = .returned (numRes (mulM a b)) ∧ w = w' := by
  cases ha : inM a
  · have HR : Hid (numRes (mulM a b) = .tuple #[.int .i64 0, .bool false]) := by show _ = _; unfold mulM; rw [ha]; rfl
    go_enter Tryz.func105, Tryz.ntmps105
    go_wp2_with (refine (cin_any _ _).mono ?_; rintro e w' ⟨rfl, rfl⟩)
    go_ret2
    exact ⟨by rw [HR.out]; rfl, rfl⟩
  cases hb : inM b
  · have HR : Hid (numRes (mulM a b) = .tuple #[.int .i64 0, .bool false]) := by show _ = _; unfold mulM; rw [ha, hb]; rfl
    go_enter Tryz.func105, Tryz.ntmps105
    go_wp2_with (refine (cin_any _ _).mono ?_; rintro e w' ⟨rfl, rfl⟩)
    go_ret2
    exact ⟨by rw [HR.out]; rfl, rfl⟩
  obtain ⟨a1, a2⟩ := inM_iff.1 ha
  obtain ⟨b1, b2⟩ := inM_iff.1 hb
  by_cases hb0 : b = 0
  · have HR : Hid (numRes (mulM a b) = .tuple #[.int .i64 0, .bool true]) := by show _ = _; unfold mulM; rw [ha, hb, hb0]; simp; rfl
    have hbb : (b != 0) = false := by simp [hb0]
    subst hb0
    go_enter Tryz.func105, Tryz.ntmps105
    go_wp2_with (refine (cin_any _ _).mono ?_; rintro e w' ⟨rfl, rfl⟩)
    go_ret2
    exact ⟨by rw [HR.out]; rfl, rfl⟩
  have hbb : (b != 0) = true := by simp [hb0]
  have h3 : 0 < b := by omega
  have hov := mul_over a b a1 h3
  have h6 : 0 ≤ a * b := Int.mul_nonneg a1 b1
  have h7 : 0 ≤ 1099511627776 / b := Int.ediv_nonneg (by decide) b1
  rcases Int.lt_or_le (1099511627776 / b) a with h | h
  · have HR : Hid (numRes (mulM a b) = .tuple #[.int .i64 0, .bool false]) := by show _ = _; have := hov.1 h; unfold mulM; rw [ha, hb, if_neg (by simp; omega)]; rfl
    clear hb0 hov
    go_enter Tryz.func105, Tryz.ntmps105
    go_wp2_with (refine (cin_any _ _).mono ?_; rintro e w' ⟨rfl, rfl⟩)
    go_ret2
    exact ⟨by rw [HR.out]; rfl, rfl⟩
  · have h8 : a * b ≤ 1099511627776 := by rcases Int.lt_or_le 1099511627776 (a * b) with h9 | h9; have := hov.2 h9; omega; exact h9
    have HR : Hid (numRes (mulM a b) = .tuple #[.int .i64 (a * b), .bool true]) := by show _ = _; unfold mulM; rw [ha, hb, if_pos (by simp; omega)]; rfl
    clear hb0 hov
    go_enter Tryz.func105, Tryz.ntmps105
    go_wp2_with (refine (cin_any _ _).mono ?_; rintro e w' ⟨rfl, rfl⟩)
    go_ret2
    exact ⟨by rw [HR.out]; rfl, rfl⟩
end Go.Proofs.YtnnnjcgddmhdmaaGreatDoor

namespace Go.Proofs.YtnnnjcgddmhdmaaGreatDoor
open Go.RowKit

theorem r2in_any (n : Int) (w : World) : Calls Tryz.prog 91 #[.int .i64 n] w fun e w' => e = .returned (.bool (inM n)) ∧ w = w' := by
  have hc : (n < 0) ∨ (0 ≤ n ∧ 1099511627776 < n) ∨ (0 ≤ n ∧ n ≤ 1099511627776) := by omega
  have HI : Hid (inM n = (decide (0 ≤ n) && decide (n ≤ 1099511627776))) := show _ = _ from rfl
  rcases hc with h | ⟨h1, h2⟩ | ⟨h1, h2⟩
  all_goals
    go_enter Tryz.func91, Tryz.ntmps91
    go_wp2
    go_ret
    exact ⟨by rw [HI.out]; simp <;> omega, rfl⟩

set_option maxRecDepth 100000 in
set_option maxHeartbeats 1000000 in
theorem r2add_any (a b : Int) (w : World) : Calls Tryz.prog 77 #[.int .i64 a, .int .i64 b] w fun e w' => e = .returned (numRes (addM a b)) ∧ w = w' := by
  cases ha : inM a
  · have HR : Hid (numRes (addM a b) = .tuple #[.int .i64 0, .bool false]) := by show _ = _; unfold addM; rw [ha]; rfl
    go_enter Tryz.func77, Tryz.ntmps77
    go_wp2_with (refine (r2in_any _ _).mono ?_; rintro e w' ⟨rfl, rfl⟩)
    go_ret2
    exact ⟨by rw [HR.out]; rfl, rfl⟩
  cases hb : inM b
  · have HR : Hid (numRes (addM a b) = .tuple #[.int .i64 0, .bool false]) := by show _ = _; unfold addM; rw [ha, hb]; rfl
    go_enter Tryz.func77, Tryz.ntmps77
    go_wp2_with (refine (r2in_any _ _).mono ?_; rintro e w' ⟨rfl, rfl⟩)
    go_ret2
    exact ⟨by rw [HR.out]; rfl, rfl⟩
  obtain ⟨a1, a2⟩ := inM_iff.1 ha
  obtain ⟨b1, b2⟩ := inM_iff.1 hb
  cases hs : inM (a + b)
  · have HR : Hid (numRes (addM a b) = .tuple #[.int .i64 0, .bool false]) := by show _ = _; have := inM_no.1 hs; unfold addM; rw [ha, hb, if_neg (by simp; omega)]; rfl
    go_enter Tryz.func77, Tryz.ntmps77
    go_wp2_with (refine (r2in_any _ _).mono ?_; rintro e w' ⟨rfl, rfl⟩)
    go_ret2
    exact ⟨by rw [HR.out]; rfl, rfl⟩
  · have HR : Hid (numRes (addM a b) = .tuple #[.int .i64 (a + b), .bool true]) := by show _ = _; have := inM_iff.1 hs; unfold addM; rw [ha, hb, if_pos (by simp; omega)]; rfl
    go_enter Tryz.func77, Tryz.ntmps77
    go_wp2_with (refine (r2in_any _ _).mono ?_; rintro e w' ⟨rfl, rfl⟩)
    go_ret2
    exact ⟨by rw [HR.out]; rfl, rfl⟩

set_option maxRecDepth 100000 in
set_option maxHeartbeats 1000000 in
theorem r2less_any (a b : Int) (w : World) : Calls Tryz.prog 92 #[.int .i64 a, .int .i64 b] w fun e w' => e = .returned (numRes (lessM a b)) ∧ w = w' := by
  cases ha : inM a
  · have HR : Hid (numRes (lessM a b) = .tuple #[.int .i64 0, .bool false]) := by show _ = _; unfold lessM; rw [ha]; rfl
    go_enter Tryz.func92, Tryz.ntmps92
    go_wp2_with (refine (r2in_any _ _).mono ?_; rintro e w' ⟨rfl, rfl⟩)
    go_ret2
    exact ⟨by rw [HR.out]; rfl, rfl⟩
  cases hb : inM b
  · have HR : Hid (numRes (lessM a b) = .tuple #[.int .i64 0, .bool false]) := by show _ = _; unfold lessM; rw [ha, hb]; rfl
    go_enter Tryz.func92, Tryz.ntmps92
    go_wp2_with (refine (r2in_any _ _).mono ?_; rintro e w' ⟨rfl, rfl⟩)
    go_ret2
    exact ⟨by rw [HR.out]; rfl, rfl⟩
  obtain ⟨a1, a2⟩ := inM_iff.1 ha
  obtain ⟨b1, b2⟩ := inM_iff.1 hb
  rcases Int.lt_or_le a b with h | h
  · have HR : Hid (numRes (lessM a b) = .tuple #[.int .i64 0, .bool true]) := by show _ = _; unfold lessM; rw [ha, hb, show max (a - b) 0 = 0 by omega]; rfl
    go_enter Tryz.func92, Tryz.ntmps92
    go_wp2_with (refine (r2in_any _ _).mono ?_; rintro e w' ⟨rfl, rfl⟩)
    go_ret2
    exact ⟨by rw [HR.out]; rfl, rfl⟩
  · have HR : Hid (numRes (lessM a b) = .tuple #[.int .i64 (a - b), .bool true]) := by show _ = _; unfold lessM; rw [ha, hb, show max (a - b) 0 = a - b by omega]; rfl
    go_enter Tryz.func92, Tryz.ntmps92
    go_wp2_with (refine (r2in_any _ _).mono ?_; rintro e w' ⟨rfl, rfl⟩)
    go_ret2
    exact ⟨by rw [HR.out]; rfl, rfl⟩

set_option maxRecDepth 100000 in
set_option maxHeartbeats 1000000 in
theorem r2mul_any (a b : Int) (w : World) : Calls Tryz.prog 94 #[.int .i64 a, .int .i64 b] w fun e w' => e = .returned (numRes (mulM a b)) ∧ w = w' := by
  cases ha : inM a
  · have HR : Hid (numRes (mulM a b) = .tuple #[.int .i64 0, .bool false]) := by show _ = _; unfold mulM; rw [ha]; rfl
    go_enter Tryz.func94, Tryz.ntmps94
    go_wp2_with (refine (r2in_any _ _).mono ?_; rintro e w' ⟨rfl, rfl⟩)
    go_ret2
    exact ⟨by rw [HR.out]; rfl, rfl⟩
  cases hb : inM b
  · have HR : Hid (numRes (mulM a b) = .tuple #[.int .i64 0, .bool false]) := by show _ = _; unfold mulM; rw [ha, hb]; rfl
    go_enter Tryz.func94, Tryz.ntmps94
    go_wp2_with (refine (r2in_any _ _).mono ?_; rintro e w' ⟨rfl, rfl⟩)
    go_ret2
    exact ⟨by rw [HR.out]; rfl, rfl⟩
  obtain ⟨a1, a2⟩ := inM_iff.1 ha
  obtain ⟨b1, b2⟩ := inM_iff.1 hb
  by_cases ha0 : a = 0
  · have HR : Hid (numRes (mulM a b) = .tuple #[.int .i64 0, .bool true]) := by show _ = _; unfold mulM; rw [ha, hb, ha0]; simp; rfl
    have haa : (a == 0) = true := by simp [ha0]
    clear ha0
    go_enter Tryz.func94, Tryz.ntmps94
    go_wp2_with (refine (r2in_any _ _).mono ?_; rintro e w' ⟨rfl, rfl⟩)
    go_ret2
    exact ⟨by rw [HR.out]; rfl, rfl⟩
  have haa : (a == 0) = false := by simp [ha0]
  by_cases hb0 : b = 0
  · have HR : Hid (numRes (mulM a b) = .tuple #[.int .i64 0, .bool true]) := by show _ = _; unfold mulM; rw [ha, hb, hb0]; simp; rfl
    have hbb : (b == 0) = true := by simp [hb0]
    clear hb0 ha0
    go_enter Tryz.func94, Tryz.ntmps94
    go_wp2_with (refine (r2in_any _ _).mono ?_; rintro e w' ⟨rfl, rfl⟩)
    go_ret2
    exact ⟨by rw [HR.out]; rfl, rfl⟩
  have hbb : (b == 0) = false := by simp [hb0]
  have h3 : 0 < a := by omega
  have hov := mul_over b a b1 h3
  rw [Int.mul_comm b a] at hov
  have h6 : 0 ≤ a * b := Int.mul_nonneg a1 b1
  have h7 : 0 ≤ 1099511627776 / a := Int.ediv_nonneg (by decide) a1
  rcases Int.lt_or_le (1099511627776 / a) b with h | h
  · have HR : Hid (numRes (mulM a b) = .tuple #[.int .i64 0, .bool false]) := by show _ = _; have := hov.1 h; unfold mulM; rw [ha, hb, if_neg (by simp; omega)]; rfl
    clear hb0 ha0 hov
    go_enter Tryz.func94, Tryz.ntmps94
    go_wp2_with (refine (r2in_any _ _).mono ?_; rintro e w' ⟨rfl, rfl⟩)
    go_ret2
    exact ⟨by rw [HR.out]; rfl, rfl⟩
  · have h8 : a * b ≤ 1099511627776 := by rcases Int.lt_or_le 1099511627776 (a * b) with h9 | h9; have := hov.2 h9; omega; exact h9
    have HR : Hid (numRes (mulM a b) = .tuple #[.int .i64 (a * b), .bool true]) := by show _ = _; unfold mulM; rw [ha, hb, if_pos (by simp; omega)]; rfl
    clear hb0 ha0 hov
    go_enter Tryz.func94, Tryz.ntmps94
    go_wp2_with (refine (r2in_any _ _).mono ?_; rintro e w' ⟨rfl, rfl⟩)
    go_ret2
    exact ⟨by rw [HR.out]; rfl, rfl⟩

theorem up_eq (a b : Int) (ha : 0 ≤ a) (hb : 0 < b) : (if a = 0 then 0 else (a - 1) / b + 1) = if a / b * b < a then a / b + 1 else a / b := by
  have h1 := Int.emod_add_mul_ediv a b
  have h2 := Int.emod_nonneg a (show b ≠ 0 by omega)
  have h3 := Int.emod_lt_of_pos a hb
  rw [Int.mul_comm (a / b) b]
  generalize a % b = r at *
  generalize hq : a / b = q at *
  by_cases h0 : a = 0
  · subst h0
    have : q = 0 := by rw [← hq]; simp
    subst this
    simp
  · rw [if_neg h0]
    have key : ∀ t : Int, b * t ≤ a - 1 → a - 1 < b * t + b → (a - 1) / b = t := fun t h4 h5 => by
      have l1 : t ≤ (a - 1) / b := (Int.le_ediv_iff_mul_le hb).2 (by rw [Int.mul_comm]; exact h4)
      have l2 : (a - 1) / b < t + 1 := (Int.ediv_lt_iff_lt_mul hb).2 (by rw [Int.mul_comm, Int.mul_add, Int.mul_one]; exact h5)
      omega
    by_cases hr : b * q < a
    · rw [if_pos hr, key q (by omega) (by omega)]
    · rw [if_neg hr, key (q - 1) (by rw [Int.mul_sub, Int.mul_one]; omega) (by rw [Int.mul_sub, Int.mul_one]; omega)]
      omega
set_option maxRecDepth 100000 in
set_option maxHeartbeats 1000000 in
theorem r2up_any (a b : Int) (w : World) : Calls Tryz.prog 93 #[.int .i64 a, .int .i64 b] w fun e w' => e = .returned (numRes (upM a b)) ∧ w = w' := by
  cases ha : inM a
  · have HR : Hid (numRes (upM a b) = .tuple #[.int .i64 0, .bool false]) := by show _ = _; unfold upM; rw [ha]; rfl
    go_enter Tryz.func93, Tryz.ntmps93
    go_wp2_with (refine (r2in_any _ _).mono ?_; rintro e w' ⟨rfl, rfl⟩)
    go_ret2
    exact ⟨by rw [HR.out]; rfl, rfl⟩
  cases hb : inM b
  · have HR : Hid (numRes (upM a b) = .tuple #[.int .i64 0, .bool false]) := by show _ = _; unfold upM; rw [ha, hb]; rfl
    go_enter Tryz.func93, Tryz.ntmps93
    go_wp2_with (refine (r2in_any _ _).mono ?_; rintro e w' ⟨rfl, rfl⟩)
    go_ret2
    exact ⟨by rw [HR.out]; rfl, rfl⟩
  obtain ⟨a1, a2⟩ := inM_iff.1 ha
  obtain ⟨b1, b2⟩ := inM_iff.1 hb
  by_cases hb0 : b = 0
  · have HR : Hid (numRes (upM a b) = .tuple #[.int .i64 0, .bool false]) := by show _ = _; unfold upM; rw [ha, hb, hb0]; rfl
    have hbb : (b == 0) = true := by simp [hb0]
    clear hb0
    go_enter Tryz.func93, Tryz.ntmps93
    go_wp2_with (refine (r2in_any _ _).mono ?_; rintro e w' ⟨rfl, rfl⟩)
    go_ret2
    exact ⟨by rw [HR.out]; rfl, rfl⟩
  have hbb : (b == 0) = false := by simp [hb0]
  have h3 : 0 < b := by omega
  have hue := up_eq a b a1 h3
  have h4 : 0 ≤ a / b := Int.ediv_nonneg a1 b1
  have h5 : a / b ≤ 1099511627776 := by have := Int.ediv_le_self b a1; omega
  have h6 : 0 ≤ a / b * b := Int.mul_nonneg h4 b1
  have h7 : a / b * b ≤ a := Int.ediv_mul_le a hb0
  have h8 : a / b * b ≤ 1099511627776 := by omega
  by_cases hr : a / b * b < a
  · have HR : Hid (numRes (upM a b) = .tuple #[.int .i64 (a / b + 1), .bool true]) := by show _ = _; unfold upM; rw [ha, hb, hbb, hue, if_pos hr]; rfl
    clear hb0 hue
    go_enter Tryz.func93, Tryz.ntmps93
    go_wp2_with (refine (r2in_any _ _).mono ?_; rintro e w' ⟨rfl, rfl⟩)
    go_ret2
    exact ⟨by rw [HR.out]; rfl, rfl⟩
  · have HR : Hid (numRes (upM a b) = .tuple #[.int .i64 (a / b), .bool true]) := by show _ = _; unfold upM; rw [ha, hb, hbb, hue, if_neg hr]; rfl
    have hr2 : a ≤ a / b * b := by omega
    clear hb0 hue hr
    go_enter Tryz.func93, Tryz.ntmps93
    go_wp2_with (refine (r2in_any _ _).mono ?_; rintro e w' ⟨rfl, rfl⟩)
    go_ret2
    exact ⟨by rw [HR.out]; rfl, rfl⟩
end Go.Proofs.YtnnnjcgddmhdmaaGreatDoor

namespace Go.Proofs.YtnnnjcgddmhdmaaGreatDoor
open Go.RowKit

theorem numRes_none : numRes none = .tuple #[.int .i64 0, .bool false] := rfl
theorem numRes_eq (r : Option Int) : numRes r = .tuple #[.int .i64 (r.getD 0), .bool r.isSome] := rfl
theorem numRes_some (n : Int) : numRes (some n) = .tuple #[.int .i64 n, .bool true] := rfl
/-- Work that comes again and again. -/
structure Trm where
  per : Int
  cost : Int
  off : Int
  car : Int
  deriving DecidableEq, Inhabited
def trmCells (t : Trm) : List Value := [.int .i64 t.per, .int .i64 t.cost, .int .i64 t.off, .int .i64 t.car]
def jobsM (t : Trm) (n : Int) : Option Int := (lessM n t.off).bind (fun d => upM d t.per)
def workM (t : Trm) (n : Int) : Option Int := (jobsM t n).bind (fun j => (mulM j t.cost).bind (fun c => addM c t.car))
theorem agg_term : AggOf Tryz.prog 134 4 := ⟨by kernel_rfl, by kernel_rfl⟩

set_option maxRecDepth 100000 in
set_option maxHeartbeats 1000000 in
theorem jobs_any (t : Trm) (n : Int) (w : World) : Calls Tryz.prog 104 #[.agg (trmCells t).toArray, .int .i64 n] w fun e w' => e = .returned (numRes (jobsM t n)) ∧ Keep [] w w' := by
  have K0 := Lib.hid ((Keep.refl [] w).alloc (.cells (trmCells t).toArray 134))
  cases hl : lessM n t.off with
  | none =>
    have HR : Hid (numRes (jobsM t n) = .tuple #[.int .i64 0, .bool false]) := by show _ = _; unfold jobsM; rw [hl]; rfl
    unfold trmCells at *
    go_enter Tryz.func104, Tryz.ntmps104
    go_wp2_with (refine (cless_any _ _ _).mono ?_; rintro e w' ⟨rfl, rfl⟩; rw [hl, numRes_none])
    go_ret2
    exact ⟨by rw [HR.out]; rfl, K0.out⟩
  | some d =>
    have HR : Hid (numRes (jobsM t n) = numRes (upM d t.per)) := by show _ = _; unfold jobsM; rw [hl]; rfl
    unfold trmCells at *
    go_enter Tryz.func104, Tryz.ntmps104
    go_wp2_with (first
      | (refine (cless_any _ _ _).mono ?_; rintro e w' ⟨rfl, rfl⟩; rw [hl, numRes_some])
      | (refine (cup_any _ _ _).mono ?_; rintro e w' ⟨rfl, rfl⟩; rw [numRes_eq]))
    go_ret2
    exact ⟨by rw [HR.out]; rfl, K0.out⟩

set_option maxRecDepth 100000 in
set_option maxHeartbeats 1000000 in
theorem work_any (t : Trm) (n : Int) (w : World) : Calls Tryz.prog 103 #[.agg (trmCells t).toArray, .int .i64 n] w fun e w' => e = .returned (numRes (workM t n)) ∧ Keep [] w w' := by
  have hb0 := Blk.new w 134 (trmCells t).toArray
  have K0 := (Keep.refl [] w).alloc (.cells (trmCells t).toArray 134)
  obtain ⟨W0, hW0⟩ : ∃ W0, w.alloc (.cells (trmCells t).toArray 134) = W0 := ⟨_, rfl⟩
  rw [hW0] at hb0 K0
  have hF : Hid (∀ W, Keep [] W0 W → W.cell? ⟨w.heap.size, 1, none⟩ = some (.int .i64 t.cost) ∧ W.cell? ⟨w.heap.size, 3, none⟩ = some (.int .i64 t.car)) := fun W hk =>
    ⟨by rw [(hb0.keep0 hk).cell]; rfl, by rw [(hb0.keep0 hk).cell]; rfl⟩
  have HA : Hid (AggOf Tryz.prog 134 (trmCells t).length ∧ CellsAt W0 w.heap.size 0 (trmCells t)) := ⟨agg_term, hb0.cellsAt⟩
  have HJ := Lib.hid (jobs_any t n W0)
  clear hb0
  cases hj : jobsM t n with
  | none =>
    have HR : Hid (numRes (workM t n) = .tuple #[.int .i64 0, .bool false]) := by show _ = _; unfold workM; rw [hj]; rfl
    generalize trmCells t = tc at *
    go_enter Tryz.func103, Tryz.ntmps103
    go_wp2_with (refine wpList_load_agg rfl 134 (.tmp 2) rfl rfl (cs := tc) HA.out.1 HA.out.2 ?_)
    refine HJ.out.mono ?_
    rintro e w1 ⟨rfl, k1⟩
    rw [hj, numRes_none]
    have K1 := Lib.hid (K0.then k1)
    clear k1
    go_wp2
    go_ret2
    exact ⟨by rw [HR.out]; rfl, K1.out⟩
  | some j =>
    have HC := fun W => Lib.hid (cmul_any j t.cost W)
    cases hm : mulM j t.cost with
    | none =>
      have HR : Hid (numRes (workM t n) = .tuple #[.int .i64 0, .bool false]) := by show _ = _; unfold workM; rw [hj]; show numRes ((mulM j t.cost).bind _) = _; rw [hm]; rfl
      generalize trmCells t = tc at *
      go_enter Tryz.func103, Tryz.ntmps103
      go_wp2_with (refine wpList_load_agg rfl 134 (.tmp 2) rfl rfl (cs := tc) HA.out.1 HA.out.2 ?_)
      refine HJ.out.mono ?_
      rintro e w1 ⟨rfl, k1⟩
      rw [hj, numRes_some]
      have K1 := Lib.hid (K0.then k1)
      obtain ⟨c1, c2⟩ := hF.out _ k1
      clear k1
      go_wp2_with (refine (HC _).out.mono ?_; rintro e w2 ⟨rfl, rfl⟩; rw [hm, numRes_none])
      go_ret2
      exact ⟨by rw [HR.out]; rfl, K1.out⟩
    | some c =>
      have HR : Hid (numRes (workM t n) = numRes (addM c t.car)) := by show _ = _; unfold workM; rw [hj]; show numRes ((mulM j t.cost).bind _) = _; rw [hm]; rfl
      generalize trmCells t = tc at *
      go_enter Tryz.func103, Tryz.ntmps103
      go_wp2_with (refine wpList_load_agg rfl 134 (.tmp 2) rfl rfl (cs := tc) HA.out.1 HA.out.2 ?_)
      refine HJ.out.mono ?_
      rintro e w1 ⟨rfl, k1⟩
      rw [hj, numRes_some]
      have K1 := Lib.hid (K0.then k1)
      obtain ⟨c1, c2⟩ := hF.out _ k1
      clear k1
      go_wp2_with (first
        | (refine (HC _).out.mono ?_; rintro e w2 ⟨rfl, rfl⟩; rw [hm, numRes_some])
        | (refine (cadd_any _ _ _).mono ?_; rintro e w2 ⟨rfl, rfl⟩; rw [numRes_eq]))
      go_ret2
      exact ⟨by rw [HR.out]; rfl, K1.out⟩
end Go.Proofs.YtnnnjcgddmhdmaaGreatDoor

namespace Go.Proofs.YtnnnjcgddmhdmaaGreatDoor
open Go.RowKit

set_option maxRecDepth 100000 in
set_option maxHeartbeats 1000000 in
theorem rwork_any (t : Trm) (n : Int) (w : World) : Calls Tryz.prog 79 #[.agg (trmCells t).toArray, .int .i64 n] w fun e w' => e = .returned (numRes (workM t n)) ∧ Keep [] w w' := by
  have K0 := Lib.hid ((Keep.refl [] w).alloc (.cells (trmCells t).toArray 113))
  have HL := fun w => Lib.hid (r2less_any n t.off w)
  cases hl : lessM n t.off with
  | none =>
    have HR : Hid (numRes (workM t n) = .tuple #[.int .i64 0, .bool false]) := by show _ = _; unfold workM jobsM; rw [hl]; rfl
    unfold trmCells at *
    go_enter Tryz.func79, Tryz.ntmps79
    go_wp2_with (refine (HL _).out.mono ?_; rintro e w' ⟨rfl, rfl⟩; rw [hl, numRes_none])
    go_ret2
    exact ⟨by rw [HR.out]; rfl, K0.out⟩
  | some d =>
  have HU := fun w => Lib.hid (r2up_any d t.per w)
  cases hu : upM d t.per with
  | none =>
    have HR : Hid (numRes (workM t n) = .tuple #[.int .i64 0, .bool false]) := by show _ = _; unfold workM jobsM; rw [hl]; show numRes ((upM d t.per).bind _) = _; rw [hu]; rfl
    unfold trmCells at *
    go_enter Tryz.func79, Tryz.ntmps79
    go_wp2_with (first
      | (refine (HL _).out.mono ?_; rintro e w' ⟨rfl, rfl⟩; rw [hl, numRes_some])
      | (refine (HU _).out.mono ?_; rintro e w' ⟨rfl, rfl⟩; rw [hu, numRes_none]))
    go_ret2
    exact ⟨by rw [HR.out]; rfl, K0.out⟩
  | some j =>
  have HM := fun w => Lib.hid (r2mul_any j t.cost w)
  cases hm : mulM j t.cost with
  | none =>
    have HR : Hid (numRes (workM t n) = .tuple #[.int .i64 0, .bool false]) := by show _ = _; unfold workM jobsM; rw [hl]; show numRes ((upM d t.per).bind _) = _; rw [hu]; show numRes ((mulM j t.cost).bind _) = _; rw [hm]; rfl
    unfold trmCells at *
    go_enter Tryz.func79, Tryz.ntmps79
    go_wp2_with (first
      | (refine (HL _).out.mono ?_; rintro e w' ⟨rfl, rfl⟩; rw [hl, numRes_some])
      | (refine (HU _).out.mono ?_; rintro e w' ⟨rfl, rfl⟩; rw [hu, numRes_some])
      | (refine (HM _).out.mono ?_; rintro e w' ⟨rfl, rfl⟩; rw [hm, numRes_none]))
    go_ret2
    exact ⟨by rw [HR.out]; rfl, K0.out⟩
  | some c =>
    have HR : Hid (numRes (workM t n) = numRes (addM c t.car)) := by show _ = _; unfold workM jobsM; rw [hl]; show numRes ((upM d t.per).bind _) = _; rw [hu]; show numRes ((mulM j t.cost).bind _) = _; rw [hm]; rfl
    unfold trmCells at *
    go_enter Tryz.func79, Tryz.ntmps79
    go_wp2_with (first
      | (refine (HL _).out.mono ?_; rintro e w' ⟨rfl, rfl⟩; rw [hl, numRes_some])
      | (refine (HU _).out.mono ?_; rintro e w' ⟨rfl, rfl⟩; rw [hu, numRes_some])
      | (refine (HM _).out.mono ?_; rintro e w' ⟨rfl, rfl⟩; rw [hm, numRes_some])
      | (refine (r2add_any _ _ _).mono ?_; rintro e w' ⟨rfl, rfl⟩; rw [numRes_eq]))
    go_ret2
    exact ⟨by rw [HR.out]; rfl, K0.out⟩
end Go.Proofs.YtnnnjcgddmhdmaaGreatDoor

namespace Go.Proofs.YtnnnjcgddmhdmaaGreatDoor
open Go.RowKit

def trmOf (t : Tsk) : Trm := ⟨t.per, t.cost, 0, 0⟩
theorem tsk_get (t : Tsk) : (tskCells t)[0]? = some (.int .i64 t.per) ∧ (tskCells t)[2]? = some (.int .i64 t.cost) := ⟨rfl, rfl⟩
set_option maxRecDepth 100000 in
set_option maxHeartbeats 1000000 in
theorem demOf_any (t : Tsk) (w : World) : Calls Tryz.prog 87 #[.agg (tskCells t).toArray, .int .i64 0] w fun e w' => e = .returned (.agg (trmCells (trmOf t)).toArray) ∧ Keep [] w w' := by
  have hb0 := Blk.new w 33 (tskCells t).toArray
  have K0 := (Keep.refl [] w).alloc (.cells (tskCells t).toArray 33)
  obtain ⟨W0, hW0⟩ : ∃ W0, w.alloc (.cells (tskCells t).toArray 33) = W0 := ⟨_, rfl⟩
  have hs0 : Hid (W0.heap.size = w.heap.size + 1) := by show _ = _; rw [← hW0]; simp
  rw [hW0] at hb0 K0
  have HW := Lib.hid hW0
  have K1 := Lib.hid K0
  have hF : Hid (∀ W, Keep [] W0 W → W.cell? ⟨w.heap.size, 0, none⟩ = some (.int .i64 t.per) ∧ W.cell? ⟨w.heap.size, 2, none⟩ = some (.int .i64 t.cost)) := fun W hk =>
    ⟨by rw [(hb0.keep0 hk).cell]; rfl, by rw [(hb0.keep0 hk).cell]; rfl⟩
  have HC : Hid ((trmCells (trmOf t)) = [.int .i64 t.per, .int .i64 t.cost, .int .i64 0, .int .i64 0]) := show _ = _ from rfl
  obtain ⟨c1, c2⟩ := hF.out _ ((Keep.refl [] W0).alloc (.cells #[.int .i64 0, .int .i64 0, .int .i64 0, .int .i64 0] 134))
  clear hb0 K0 hW0
  generalize tskCells t = tc at *
  go_enter Tryz.func87, Tryz.ntmps87
  go_wp2_with (first | rw [HW.out] | refine stop_store 134 (.tmp 4) (.tmp 10) rfl ?_)
  constructor
  refine wpList_store_all rfl 134 (.tmp 4) (.tmp 10) rfl rfl rfl (t := 134) (cs := #[.int .i64 0, .int .i64 0, .int .i64 0, .int .i64 0]) (vs := trmCells (trmOf t)) agg_term.2 (Blk.new _ _ _) (by simp [trmCells, Value.oneCell']) rfl ?_
  intro w' d k'
  have K2 : Hid (Keep [] w w') := (K1.out.alloc _).trans k' (fun x hx hlt => by
    have := hs0.out
    simp at hx; omega)
  clear k'
  go_wp2
  refine bodyPost_ret (results_blk rfl _ rfl d agg_term) rfl ?_
  exact ⟨rfl, K2.out⟩
end Go.Proofs.YtnnnjcgddmhdmaaGreatDoor

namespace Go.Proofs.YtnnnjcgddmhdmaaGreatDoor
open Go.RowKit

/-- The sum of a row behind a number, as far as it goes. -/
def sumFrom : Int → List Int → Option Int
  | n, [] => some n
  | n, a :: l => (addM n a).bind (fun m => sumFrom m l)

set_option maxRecDepth 100000 in
set_option maxHeartbeats 1000000 in
theorem r2sum_any (A : Option Addr) (c : Nat) (l : List Int) (w : World) (h : Reads w 1 A l.length (iv l)) (hlen : l.length ≤ 65536) :
    Calls Tryz.prog 80 #[.slice A l.length c] w fun e w' => e = .returned (numRes (sumFrom 0 l)) ∧ Keep [] w w' := by
  have HR := Lib.hid h
  have HL := Lib.hid hlen
  clear h hlen
  go_enter Tryz.func80, Tryz.ntmps80
  go_wp2
  go_loopw [4, 5] (fun n i wr => ∃ (k : Nat) (m : Int), k ≤ l.length ∧ i = .int .i64 k ∧ n = .int .i64 m ∧ sumFrom 0 l = sumFrom m (l.drop k) ∧ wr = w) (fun _ i _ => l.length - (intOf i).toNat)
  case atStart => exact ⟨0, 0, Nat.zero_le _, rfl, rfl, rfl, rfl⟩
  case round =>
    obtain ⟨k, m, hk, rfl, rfl, hs, rfl⟩ := hrel
    have hl := HL.out
    by_cases hlt : k < l.length
    · obtain ⟨b, o, rfl, hb, hcell⟩ := HR.out.addr (by omega)
      have hc := hcell k _ (iv_get hlt)
      have hd : l.drop k = l[k] :: l.drop (k + 1) := List.drop_eq_getElem_cons hlt
      rw [hd] at hs
      clear hcell hd
      generalize l[k] = a at *
      have HA := fun w => Lib.hid (cadd_any m a w)
      have HA2 := fun w => Lib.hid (r2add_any m a w)
      cases hm : addM m a with
      | none =>
        have HX : Hid (numRes (sumFrom 0 l) = .tuple #[.int .i64 0, .bool false]) := by show _ = _; rw [hs]; show numRes ((addM m a).bind _) = _; rw [hm]; rfl
        clear hs
        go_wp2_with (refine (HA2 _).out.mono ?_; rintro e w' ⟨rfl, rfl⟩; rw [hm, numRes_none])
        go_ret2
        exact ⟨by rw [HX.out]; rfl, Keep.refl _ _⟩
      | some q =>
        have HX : Hid (sumFrom 0 l = sumFrom q (l.drop (k + 1))) := by show _ = _; rw [hs]; show (addM m a).bind _ = _; rw [hm]; rfl
        clear hs
        go_wp2_with (refine (HA2 _).out.mono ?_; rintro e w' ⟨rfl, rfl⟩; rw [hm, numRes_some])
        go_roundw
        case rel => exact ⟨k + 1, q, by omega, by go_num, rfl, HX.out, trivial⟩
        case measure => simp [intOf] <;> omega
    · obtain rfl : k = l.length := by omega
      have HX : Hid (numRes (sumFrom 0 l) = .tuple #[.int .i64 m, .bool true]) := by show _ = _; rw [hs, List.drop_length]; rfl
      clear hs
      go_wp2
      go_ret2
      exact ⟨by rw [HX.out]; rfl, Keep.refl _ _⟩
end Go.Proofs.YtnnnjcgddmhdmaaGreatDoor

namespace Go.Proofs.YtnnnjcgddmhdmaaGreatDoor
open Go.RowKit

section
variable {P : Program} {ops : Array Oper} {rest : List Oper} {o : Oper} {a : Act} {Q : Exit → Act → World → Prop} {wr : World} {e : TypeId}
/-- 'out = append(out, x, y, ..)': out is the call's own. -/
theorem wpList_app_row {us : List Value} (m : Nat)
    (hgd : o.guard = none) (s x : Operand) (t : TypeId) (ho : o.op = .call { callee := .builtin .append, args := #[s, x], argTypes := #[t, t] })
    {size bytes : Nat} (hS : SliceOf P t e size bytes) {B : Nat} {v : Value} {n : Nat} {xs : List Value} (hown : wr.ownsRow B e size v n xs) (hs : a.eval s = v) (hx : a.eval x = .slice (some ⟨wr.heap.size, 0, none⟩) m m)
    (hl : us.length = m * size) (h1 : ∀ u ∈ us, u.oneCell' = true) (hB : B ≤ wr.heap.size) (hb : (n + m) * bytes ≤ 140737488355328) (h63 : n + m ≤ maxLen)
    (h : ∀ v' w', w'.ownsRow B e size v' (n + m) (xs ++ us) → Keep v.ownBlock.toList wr w' → (v'.ownBlock = v.ownBlock ∨ v'.ownBlock = some (wr.heap.size + 1)) → wpList P ops Q rest (a.put o.dst v') w') :
    wpList P ops Q (o :: rest) a (wr.alloc (.cells us.toArray e)) := by
  obtain ⟨ht, ⟨i, z, hi, hz, hsz, hby, hzs⟩, hpos⟩ := hS.parts
  obtain ⟨v', w', hr, h2, h3, _, h5⟩ := run_append_own_at (P := P) (wr.alloc (.cells us.toArray e)) B t o.type e i z size bytes ht hi hz hsz hby hzs hpos v n xs (hown.alloc _) ⟨wr.heap.size, 0, none⟩ m m us hl
    (by
      intro j u hu
      rw [add_of_block]
      show World.cell? _ _ = _
      simp only [World.cell?, heap_alloc_new]
      simpa using hu) h1 h63 hb (by simp; omega)
  refine wpList_plain hgd fun K hK => ?_
  unfold Oper.wp execOp
  simp only [ho, resolve, invoke, builtin, Sem.run_bind, Sem.run_pure, Result.andThen_ok, List.map_toArray, List.map_cons, List.map_nil, hs, hx, hr]
  refine hK _ _ (h v' w' h2 ?_ (by simpa using h5))
  have hk := Keep.of_grown h3
  exact ((Keep.refl _ wr).alloc _).trans hk (fun x hx _ => hx)
end

theorem slice_intR : SliceOf Tryz.prog 115 3 1 8 := ⟨Tryz.underlying115, by kernel_rfl, by decide⟩
/-- The work of each term; none: one of them is none. -/
def worksM (n : Int) : List Trm → Option (List Int)
  | [] => some []
  | t :: l => (workM t n).bind (fun x => (worksM n l).map (fun r => x :: r))
def allM (ts : List Trm) (n : Int) : Option Int := (worksM n ts).bind (sumFrom 0)
/-- Behind k terms. -/
theorem worksM_step (n : Int) (ts : List Trm) (k : Nat) (hk : k < ts.length) (pre : List Int) (h : worksM n ts = (worksM n (ts.drop k)).map (fun r => pre ++ r)) :
    (workM ts[k] n = none → worksM n ts = none) ∧ (∀ x, workM ts[k] n = some x → worksM n ts = (worksM n (ts.drop (k + 1))).map (fun r => (pre ++ [x]) ++ r)) := by
  rw [List.drop_eq_getElem_cons hk, worksM] at h
  constructor
  · intro hx; rw [h, hx]; rfl
  · intro x hx
    rw [h, hx]
    show ((worksM n _).map _).map _ = _
    rw [Option.map_map]
    congr 1
    funext r
    simp
theorem trm_len (t : Trm) : (trmCells t).length = 4 := rfl
theorem agg_rterm : AggOf Tryz.prog 113 4 := ⟨by kernel_rfl, by kernel_rfl⟩

set_option maxRecDepth 100000 in
set_option maxHeartbeats 2000000 in
theorem rall_any (A : Option Addr) (c : Nat) (l : List Trm) (n : Int) (w : World) (h : Reads w 4 A l.length (l.flatMap trmCells)) (hlen : l.length ≤ 64) :
    Calls Tryz.prog 57 #[.slice A l.length c, .int .i64 n] w fun e w' => e = .returned (numRes (allM l n)) ∧ Keep [] w w' := by
  have HR := Lib.hid h
  have HL := Lib.hid hlen
  clear h hlen
  go_enter Tryz.func57, Tryz.ntmps57
  go_wp2
  go_loopw [6, 7] (fun o i wr => ∃ (k : Nat) (pre : List Int), k ≤ l.length ∧ i = .int .i64 k ∧ pre.length = k ∧ wr.ownsRow w.heap.size 3 1 o pre.length (iv pre) ∧ worksM n l = (worksM n (l.drop k)).map (fun r => pre ++ r) ∧ Keep [] w wr) (fun _ i _ => l.length - (intOf i).toNat)
  case atStart => exact ⟨0, [], Nat.zero_le _, rfl, rfl, World.ownsRow_nil _ _ _ _, by rw [List.drop_zero]; cases worksM n l <;> rfl, Keep.refl _ _⟩
  case round =>
    obtain ⟨k, pre, hk, rfl, hpk, hown, hs, hK⟩ := hrel
    have hl := HL.out
    have hKs := hK.size
    by_cases hlt : k < l.length
    · obtain ⟨b, o, rfl, hb, hcell⟩ := (HR.out.keep0 hK).elems rfl (fun t _ => trm_len t) (by omega)
      have hc := Lib.hid (hcell k hlt)
      obtain ⟨s1, s2⟩ := worksM_step n l k hlt pre hs
      have HW := fun w => Lib.hid (rwork_any l[k] n w)
      have HTL : Hid ((trmCells l[k]).length = 4) := show _ = _ from rfl
      clear hs hcell
      generalize l[k] = t at *
      cases hm : workM t n with
      | none =>
        have HX : Hid (numRes (allM l n) = .tuple #[.int .i64 0, .bool false]) := by show _ = _; unfold allM; rw [s1 hm]; rfl
        clear s1 s2
        generalize trmCells t = tc at *
        go_wp2_with (refine wpList_load_agg rfl 113 (.tmp 19) rfl rfl (cs := tc) (by rw [HTL.out]; exact agg_rterm) hc.out ?_)
        refine (HW _).out.mono ?_
        rintro e w5 ⟨rfl, k5⟩
        rw [hm, numRes_none]
        have K5 := Lib.hid (hK.then k5)
        clear k5
        go_wp2
        go_ret2
        exact ⟨by rw [HX.out]; rfl, K5.out⟩
      | some x =>
        have HX := Lib.hid (s2 x hm)
        clear s1 s2
        generalize trmCells t = tc at *
        go_wp2_with (refine wpList_load_agg rfl 113 (.tmp 19) rfl rfl (cs := tc) (by rw [HTL.out]; exact agg_rterm) hc.out ?_)
        refine (HW _).out.mono ?_
        rintro e w5 ⟨rfl, k5⟩
        rw [hm, numRes_some]
        have K5 := Lib.hid (hK.then k5)
        have hown5 := own_keep0 hown k5
        have hw5 := K5.out.size
        clear k5 hown
        go_wp2_with (refine stop_at 30 rfl ?_)
        constructor
        refine wpList_app_row 1 rfl (.tmp 27) (.tmp 29) 115 rfl slice_intR hown5 rfl rfl (us := [.int .i64 x]) rfl (by simp [Value.oneCell']) hw5 (by omega) (by unfold maxLen; omega) ?_
        intro v' w4 o4 k4 _
        have o5 : Hid (w4.ownsRow w.heap.size 3 1 v' (pre ++ [x]).length (iv (pre ++ [x]))) := by
          show World.ownsRow _ _ _ _ _ _ _
          simpa [iv] using o4
        have k6 : Hid (Keep [] w w4) := K5.out.trans k4 (fun g hg hlt => by
          have := hown5.lt g (by simpa using hg)
          omega)
        clear o4 k4 hown5
        go_wp2
        go_roundw
        case rel => exact ⟨k + 1, pre ++ [x], by omega, by go_num, by simp [hpk], o5.out, HX.out, k6.out⟩
        case measure => simp [intOf] <;> omega
    · obtain rfl : k = l.length := by omega
      have HX : Hid (allM l n = sumFrom 0 pre) := by
        show _ = _
        unfold allM
        rw [hs, List.drop_length]
        show sumFrom 0 (pre ++ []) = _
        rw [List.append_nil]
      obtain ⟨A9, c9, rfl⟩ := own_shape hown
      have HS := fun w' hk => Lib.hid (r2sum_any A9 c9 pre w' ((Reads.of_own hown).keep0 hk) (by omega))
      have HK := Lib.hid hK
      clear hs hown
      generalize sumFrom 0 pre = sr at *
      clear HR HL hpk
      go_wp2_with (refine (HS _ (Keep.refl _ _)).out.mono ?_; rintro e w5 ⟨rfl, k5⟩; rw [numRes_eq])
      have K5 := Lib.hid (HK.out.then k5)
      go_ret2
      exact ⟨by rw [HX.out]; rfl, K5.out⟩
end Go.Proofs.YtnnnjcgddmhdmaaGreatDoor
