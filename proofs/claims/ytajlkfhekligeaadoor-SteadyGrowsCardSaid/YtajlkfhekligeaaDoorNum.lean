/- Numbers from 0 to 2^40: sums, products, quotients, differences; no program in sight. What check's functions answer. What the document's own numbers answer (layer 2). -/
import Derived.Test.YtajlkfhekligeaaDoorBase
import Derived.Test.YtajlkfhekligeaaDoorRows
import Derived.Test.YtajlkfhekligeaaDoorStop
import Derived.WalkKit
import Derived.WalkSpells
import Derived.WalkLawsBesides
namespace Go.Proofs.YtajlkfhekligeaaDoor

def inM (n : Int) : Bool := decide (0 ≤ n) && decide (n ≤ 1099511627776)
def addM (a b : Int) : Option Int := if inM a && inM b && decide (a + b ≤ 1099511627776) then some (a + b) else none
def mulM (a b : Int) : Option Int := if inM a && inM b && decide (a * b ≤ 1099511627776) then some (a * b) else none
def upM (a b : Int) : Option Int := if inM a && inM b && !(b == 0) then some (if a = 0 then 0 else (a - 1) / b + 1) else none
def lessM (a b : Int) : Option Int := if inM a && inM b then some (max (a - b) 0) else none
def numRes (r : Option Int) : Value := .tuple #[.int .i64 (r.getD 0), .bool r.isSome]
theorem inM_iff {n : Int} : inM n = true ↔ 0 ≤ n ∧ n ≤ 1099511627776 := by unfold inM; simp
theorem inM_no {n : Int} : inM n = false ↔ n < 0 ∨ 1099511627776 < n := by
  rw [← Bool.not_eq_true, inM_iff]; omega
theorem mul_over (a b : Int) (ha : 0 ≤ a) (hb : 0 < b) : 1099511627776 / b < a ↔ 1099511627776 < a * b := by
  constructor
  · intro h
    exact (Int.ediv_lt_iff_lt_mul hb).1 h
  · intro h
    exact (Int.ediv_lt_iff_lt_mul hb).2 h
end Go.Proofs.YtajlkfhekligeaaDoor

namespace Go.Proofs.YtajlkfhekligeaaDoor
open Go.RowKit

theorem cin_any (n : Int) (w : World) : Calls Tryd.prog 84 #[.int .i64 n] w fun e w' => e = .returned (.bool (inM n)) ∧ w = w' := by
  have hc : (n < 0) ∨ (0 ≤ n ∧ 1099511627776 < n) ∨ (0 ≤ n ∧ n ≤ 1099511627776) := by omega
  have HI : Hid (inM n = (decide (0 ≤ n) && decide (n ≤ 1099511627776))) := show _ = _ from rfl
  rcases hc with h | ⟨h1, h2⟩ | ⟨h1, h2⟩
  all_goals
    go_enter Tryd.func84, Tryd.ntmps84
    go_wp2
    go_ret
    exact ⟨by rw [HI.out]; simp <;> omega, rfl⟩

set_option maxRecDepth 100000 in
set_option maxHeartbeats 1000000 in
theorem cadd_any (a b : Int) (w : World) : Calls Tryd.prog 106 #[.int .i64 a, .int .i64 b] w fun e w' => e = .returned (numRes (addM a b)) ∧ w = w' := by
  cases ha : inM a
  · have HR : Hid (numRes (addM a b) = .tuple #[.int .i64 0, .bool false]) := by show _ = _; unfold addM; rw [ha]; rfl
    go_enter Tryd.func106, Tryd.ntmps106
    go_wp2_with (refine (cin_any _ _).mono ?_; rintro e w' ⟨rfl, rfl⟩)
    go_ret2
    exact ⟨by rw [HR.out]; rfl, rfl⟩
  cases hb : inM b
  · have HR : Hid (numRes (addM a b) = .tuple #[.int .i64 0, .bool false]) := by show _ = _; unfold addM; rw [ha, hb]; rfl
    go_enter Tryd.func106, Tryd.ntmps106
    go_wp2_with (refine (cin_any _ _).mono ?_; rintro e w' ⟨rfl, rfl⟩)
    go_ret2
    exact ⟨by rw [HR.out]; rfl, rfl⟩
  obtain ⟨a1, a2⟩ := inM_iff.1 ha
  obtain ⟨b1, b2⟩ := inM_iff.1 hb
  rcases Int.lt_or_le (1099511627776 - a) b with h | h
  · have HR : Hid (numRes (addM a b) = .tuple #[.int .i64 0, .bool false]) := by show _ = _; unfold addM; rw [ha, hb, if_neg (by simp; omega)]; rfl
    go_enter Tryd.func106, Tryd.ntmps106
    go_wp2_with (refine (cin_any _ _).mono ?_; rintro e w' ⟨rfl, rfl⟩)
    go_ret2
    exact ⟨by rw [HR.out]; rfl, rfl⟩
  · have HR : Hid (numRes (addM a b) = .tuple #[.int .i64 (a + b), .bool true]) := by show _ = _; unfold addM; rw [ha, hb, if_pos (by simp; omega)]; rfl
    go_enter Tryd.func106, Tryd.ntmps106
    go_wp2_with (refine (cin_any _ _).mono ?_; rintro e w' ⟨rfl, rfl⟩)
    go_ret2
    exact ⟨by rw [HR.out]; rfl, rfl⟩

set_option maxRecDepth 100000 in
set_option maxHeartbeats 1000000 in
theorem cless_any (a b : Int) (w : World) : Calls Tryd.prog 123 #[.int .i64 a, .int .i64 b] w fun e w' => e = .returned (numRes (lessM a b)) ∧ w = w' := by
  cases ha : inM a
  · have HR : Hid (numRes (lessM a b) = .tuple #[.int .i64 0, .bool false]) := by show _ = _; unfold lessM; rw [ha]; rfl
    go_enter Tryd.func123, Tryd.ntmps123
    go_wp2_with (refine (cin_any _ _).mono ?_; rintro e w' ⟨rfl, rfl⟩)
    go_ret2
    exact ⟨by rw [HR.out]; rfl, rfl⟩
  cases hb : inM b
  · have HR : Hid (numRes (lessM a b) = .tuple #[.int .i64 0, .bool false]) := by show _ = _; unfold lessM; rw [ha, hb]; rfl
    go_enter Tryd.func123, Tryd.ntmps123
    go_wp2_with (refine (cin_any _ _).mono ?_; rintro e w' ⟨rfl, rfl⟩)
    go_ret2
    exact ⟨by rw [HR.out]; rfl, rfl⟩
  obtain ⟨a1, a2⟩ := inM_iff.1 ha
  obtain ⟨b1, b2⟩ := inM_iff.1 hb
  rcases Int.lt_or_le (a - b) 0 with h | h
  · have HR : Hid (numRes (lessM a b) = .tuple #[.int .i64 0, .bool true]) := by show _ = _; unfold lessM; rw [ha, hb, show max (a - b) 0 = 0 by omega]; rfl
    go_enter Tryd.func123, Tryd.ntmps123
    go_wp2_with (refine (cin_any _ _).mono ?_; rintro e w' ⟨rfl, rfl⟩)
    go_ret2
    exact ⟨by rw [HR.out]; rfl, rfl⟩
  · have HR : Hid (numRes (lessM a b) = .tuple #[.int .i64 (a - b), .bool true]) := by show _ = _; unfold lessM; rw [ha, hb, show max (a - b) 0 = a - b by omega]; rfl
    go_enter Tryd.func123, Tryd.ntmps123
    go_wp2_with (refine (cin_any _ _).mono ?_; rintro e w' ⟨rfl, rfl⟩)
    go_ret2
    exact ⟨by rw [HR.out]; rfl, rfl⟩

set_option maxRecDepth 100000 in
set_option maxHeartbeats 1000000 in
theorem cup_any (a b : Int) (w : World) : Calls Tryd.prog 43 #[.int .i64 a, .int .i64 b] w fun e w' => e = .returned (numRes (upM a b)) ∧ w = w' := by
  cases ha : inM a
  · have HR : Hid (numRes (upM a b) = .tuple #[.int .i64 0, .bool false]) := by show _ = _; unfold upM; rw [ha]; rfl
    go_enter Tryd.func43, Tryd.ntmps43
    go_wp2_with (refine (cin_any _ _).mono ?_; rintro e w' ⟨rfl, rfl⟩)
    go_ret2
    exact ⟨by rw [HR.out]; rfl, rfl⟩
  cases hb : inM b
  · have HR : Hid (numRes (upM a b) = .tuple #[.int .i64 0, .bool false]) := by show _ = _; unfold upM; rw [ha, hb]; rfl
    go_enter Tryd.func43, Tryd.ntmps43
    go_wp2_with (refine (cin_any _ _).mono ?_; rintro e w' ⟨rfl, rfl⟩)
    go_ret2
    exact ⟨by rw [HR.out]; rfl, rfl⟩
  obtain ⟨a1, a2⟩ := inM_iff.1 ha
  obtain ⟨b1, b2⟩ := inM_iff.1 hb
  by_cases hb0 : b = 0
  · have HR : Hid (numRes (upM a b) = .tuple #[.int .i64 0, .bool false]) := by show _ = _; unfold upM; rw [ha, hb, hb0]; rfl
    have hbb : (b == 0) = true := by simp [hb0]
    clear hb0
    go_enter Tryd.func43, Tryd.ntmps43
    go_wp2_with (refine (cin_any _ _).mono ?_; rintro e w' ⟨rfl, rfl⟩)
    go_ret2
    exact ⟨by rw [HR.out]; rfl, rfl⟩
  have hbb : (b == 0) = false := by simp [hb0]
  by_cases ha0 : a = 0
  · have HR : Hid (numRes (upM a b) = .tuple #[.int .i64 0, .bool true]) := by show _ = _; unfold upM; rw [ha, hb, hbb]; simp only [Bool.not_false, Bool.and_self, if_true, if_pos ha0]; rfl
    have haa : (a == 0) = true := by simp [ha0]
    clear hb0 ha0
    go_enter Tryd.func43, Tryd.ntmps43
    go_wp2_with (refine (cin_any _ _).mono ?_; rintro e w' ⟨rfl, rfl⟩)
    go_ret2
    exact ⟨by rw [HR.out]; rfl, rfl⟩
  · have HR : Hid (numRes (upM a b) = .tuple #[.int .i64 ((a - 1) / b + 1), .bool true]) := by show _ = _; unfold upM; rw [ha, hb, hbb]; simp only [Bool.not_false, Bool.and_self, if_true, if_neg ha0]; rfl
    have haa : (a == 0) = false := by simp [ha0]
    have h1 : 0 ≤ a - 1 := by omega
    have h2 : 1 ≤ a := by omega
    have h3 : 0 < b := by omega
    have h4 : 0 ≤ (a - 1) / b := Int.ediv_nonneg h1 b1
    have h5 : (a - 1) / b ≤ 1099511627776 := by have := Int.ediv_le_self b h1; omega
    clear hb0 ha0
    go_enter Tryd.func43, Tryd.ntmps43
    go_wp2_with (refine (cin_any _ _).mono ?_; rintro e w' ⟨rfl, rfl⟩)
    go_ret2
    exact ⟨by rw [HR.out]; rfl, rfl⟩

set_option maxRecDepth 100000 in
set_option maxHeartbeats 1000000 in
theorem cmul_any (a b : Int) (w : World) : Calls Tryd.prog 122 #[.int .i64 a, .int .i64 b] w fun e w' => e = .returned (numRes (mulM a b)) ∧ w = w' := by
  cases ha : inM a
  · have HR : Hid (numRes (mulM a b) = .tuple #[.int .i64 0, .bool false]) := by show _ = _; unfold mulM; rw [ha]; rfl
    go_enter Tryd.func122, Tryd.ntmps122
    go_wp2_with (refine (cin_any _ _).mono ?_; rintro e w' ⟨rfl, rfl⟩)
    go_ret2
    exact ⟨by rw [HR.out]; rfl, rfl⟩
  cases hb : inM b
  · have HR : Hid (numRes (mulM a b) = .tuple #[.int .i64 0, .bool false]) := by show _ = _; unfold mulM; rw [ha, hb]; rfl
    go_enter Tryd.func122, Tryd.ntmps122
    go_wp2_with (refine (cin_any _ _).mono ?_; rintro e w' ⟨rfl, rfl⟩)
    go_ret2
    exact ⟨by rw [HR.out]; rfl, rfl⟩
  obtain ⟨a1, a2⟩ := inM_iff.1 ha
  obtain ⟨b1, b2⟩ := inM_iff.1 hb
  by_cases hb0 : b = 0
  · have HR : Hid (numRes (mulM a b) = .tuple #[.int .i64 0, .bool true]) := by show _ = _; unfold mulM; rw [ha, hb, hb0]; simp; rfl
    have hbb : (b != 0) = false := by simp [hb0]
    subst hb0
    go_enter Tryd.func122, Tryd.ntmps122
    go_wp2_with (refine (cin_any _ _).mono ?_; rintro e w' ⟨rfl, rfl⟩)
    go_ret2
    exact ⟨by rw [HR.out]; rfl, rfl⟩
  have hbb : (b != 0) = true := by simp [hb0]
  have h3 : 0 < b := by omega
  have hov := mul_over a b a1 h3
  have h6 : 0 ≤ a * b := Int.mul_nonneg a1 b1
  have h7 : 0 ≤ 1099511627776 / b := Int.ediv_nonneg (by decide) b1
  rcases Int.lt_or_le (1099511627776 / b) a with h | h
  · have HR : Hid (numRes (mulM a b) = .tuple #[.int .i64 0, .bool false]) := by show _ = _; have := hov.1 h; unfold mulM; rw [ha, hb, if_neg (by simp; omega)]; rfl
    clear hb0 hov
    go_enter Tryd.func122, Tryd.ntmps122
    go_wp2_with (refine (cin_any _ _).mono ?_; rintro e w' ⟨rfl, rfl⟩)
    go_ret2
    exact ⟨by rw [HR.out]; rfl, rfl⟩
  · have h8 : a * b ≤ 1099511627776 := by rcases Int.lt_or_le 1099511627776 (a * b) with h9 | h9; have := hov.2 h9; omega; exact h9
    have HR : Hid (numRes (mulM a b) = .tuple #[.int .i64 (a * b), .bool true]) := by show _ = _; unfold mulM; rw [ha, hb, if_pos (by simp; omega)]; rfl
    clear hb0 hov
    go_enter Tryd.func122, Tryd.ntmps122
    go_wp2_with (refine (cin_any _ _).mono ?_; rintro e w' ⟨rfl, rfl⟩)
    go_ret2
    exact ⟨by rw [HR.out]; rfl, rfl⟩
end Go.Proofs.YtajlkfhekligeaaDoor

namespace Go.Proofs.YtajlkfhekligeaaDoor
open Go.RowKit

theorem r2in_any (n : Int) (w : World) : Calls Tryd.prog 115 #[.int .i64 n] w fun e w' => e = .returned (.bool (inM n)) ∧ w = w' := by
  have hc : (n < 0) ∨ (0 ≤ n ∧ 1099511627776 < n) ∨ (0 ≤ n ∧ n ≤ 1099511627776) := by omega
  have HI : Hid (inM n = (decide (0 ≤ n) && decide (n ≤ 1099511627776))) := show _ = _ from rfl
  rcases hc with h | ⟨h1, h2⟩ | ⟨h1, h2⟩
  all_goals
    go_enter Tryd.func115, Tryd.ntmps115
    go_wp2
    go_ret
    exact ⟨by rw [HI.out]; simp <;> omega, rfl⟩

set_option maxRecDepth 100000 in
set_option maxHeartbeats 1000000 in
theorem r2add_any (a b : Int) (w : World) : Calls Tryd.prog 102 #[.int .i64 a, .int .i64 b] w fun e w' => e = .returned (numRes (addM a b)) ∧ w = w' := by
  cases ha : inM a
  · have HR : Hid (numRes (addM a b) = .tuple #[.int .i64 0, .bool false]) := by show _ = _; unfold addM; rw [ha]; rfl
    go_enter Tryd.func102, Tryd.ntmps102
    go_wp2_with (refine (r2in_any _ _).mono ?_; rintro e w' ⟨rfl, rfl⟩)
    go_ret2
    exact ⟨by rw [HR.out]; rfl, rfl⟩
  cases hb : inM b
  · have HR : Hid (numRes (addM a b) = .tuple #[.int .i64 0, .bool false]) := by show _ = _; unfold addM; rw [ha, hb]; rfl
    go_enter Tryd.func102, Tryd.ntmps102
    go_wp2_with (refine (r2in_any _ _).mono ?_; rintro e w' ⟨rfl, rfl⟩)
    go_ret2
    exact ⟨by rw [HR.out]; rfl, rfl⟩
  obtain ⟨a1, a2⟩ := inM_iff.1 ha
  obtain ⟨b1, b2⟩ := inM_iff.1 hb
  cases hs : inM (a + b)
  · have HR : Hid (numRes (addM a b) = .tuple #[.int .i64 0, .bool false]) := by show _ = _; have := inM_no.1 hs; unfold addM; rw [ha, hb, if_neg (by simp; omega)]; rfl
    go_enter Tryd.func102, Tryd.ntmps102
    go_wp2_with (refine (r2in_any _ _).mono ?_; rintro e w' ⟨rfl, rfl⟩)
    go_ret2
    exact ⟨by rw [HR.out]; rfl, rfl⟩
  · have HR : Hid (numRes (addM a b) = .tuple #[.int .i64 (a + b), .bool true]) := by show _ = _; have := inM_iff.1 hs; unfold addM; rw [ha, hb, if_pos (by simp; omega)]; rfl
    go_enter Tryd.func102, Tryd.ntmps102
    go_wp2_with (refine (r2in_any _ _).mono ?_; rintro e w' ⟨rfl, rfl⟩)
    go_ret2
    exact ⟨by rw [HR.out]; rfl, rfl⟩

set_option maxRecDepth 100000 in
set_option maxHeartbeats 1000000 in
theorem r2less_any (a b : Int) (w : World) : Calls Tryd.prog 107 #[.int .i64 a, .int .i64 b] w fun e w' => e = .returned (numRes (lessM a b)) ∧ w = w' := by
  cases ha : inM a
  · have HR : Hid (numRes (lessM a b) = .tuple #[.int .i64 0, .bool false]) := by show _ = _; unfold lessM; rw [ha]; rfl
    go_enter Tryd.func107, Tryd.ntmps107
    go_wp2_with (refine (r2in_any _ _).mono ?_; rintro e w' ⟨rfl, rfl⟩)
    go_ret2
    exact ⟨by rw [HR.out]; rfl, rfl⟩
  cases hb : inM b
  · have HR : Hid (numRes (lessM a b) = .tuple #[.int .i64 0, .bool false]) := by show _ = _; unfold lessM; rw [ha, hb]; rfl
    go_enter Tryd.func107, Tryd.ntmps107
    go_wp2_with (refine (r2in_any _ _).mono ?_; rintro e w' ⟨rfl, rfl⟩)
    go_ret2
    exact ⟨by rw [HR.out]; rfl, rfl⟩
  obtain ⟨a1, a2⟩ := inM_iff.1 ha
  obtain ⟨b1, b2⟩ := inM_iff.1 hb
  rcases Int.lt_or_le a b with h | h
  · have HR : Hid (numRes (lessM a b) = .tuple #[.int .i64 0, .bool true]) := by show _ = _; unfold lessM; rw [ha, hb, show max (a - b) 0 = 0 by omega]; rfl
    go_enter Tryd.func107, Tryd.ntmps107
    go_wp2_with (refine (r2in_any _ _).mono ?_; rintro e w' ⟨rfl, rfl⟩)
    go_ret2
    exact ⟨by rw [HR.out]; rfl, rfl⟩
  · have HR : Hid (numRes (lessM a b) = .tuple #[.int .i64 (a - b), .bool true]) := by show _ = _; unfold lessM; rw [ha, hb, show max (a - b) 0 = a - b by omega]; rfl
    go_enter Tryd.func107, Tryd.ntmps107
    go_wp2_with (refine (r2in_any _ _).mono ?_; rintro e w' ⟨rfl, rfl⟩)
    go_ret2
    exact ⟨by rw [HR.out]; rfl, rfl⟩

set_option maxRecDepth 100000 in
set_option maxHeartbeats 1000000 in
theorem r2mul_any (a b : Int) (w : World) : Calls Tryd.prog 109 #[.int .i64 a, .int .i64 b] w fun e w' => e = .returned (numRes (mulM a b)) ∧ w = w' := by
  cases ha : inM a
  · have HR : Hid (numRes (mulM a b) = .tuple #[.int .i64 0, .bool false]) := by show _ = _; unfold mulM; rw [ha]; rfl
    go_enter Tryd.func109, Tryd.ntmps109
    go_wp2_with (refine (r2in_any _ _).mono ?_; rintro e w' ⟨rfl, rfl⟩)
    go_ret2
    exact ⟨by rw [HR.out]; rfl, rfl⟩
  cases hb : inM b
  · have HR : Hid (numRes (mulM a b) = .tuple #[.int .i64 0, .bool false]) := by show _ = _; unfold mulM; rw [ha, hb]; rfl
    go_enter Tryd.func109, Tryd.ntmps109
    go_wp2_with (refine (r2in_any _ _).mono ?_; rintro e w' ⟨rfl, rfl⟩)
    go_ret2
    exact ⟨by rw [HR.out]; rfl, rfl⟩
  obtain ⟨a1, a2⟩ := inM_iff.1 ha
  obtain ⟨b1, b2⟩ := inM_iff.1 hb
  by_cases ha0 : a = 0
  · have HR : Hid (numRes (mulM a b) = .tuple #[.int .i64 0, .bool true]) := by show _ = _; unfold mulM; rw [ha, hb, ha0]; simp; rfl
    have haa : (a == 0) = true := by simp [ha0]
    clear ha0
    go_enter Tryd.func109, Tryd.ntmps109
    go_wp2_with (refine (r2in_any _ _).mono ?_; rintro e w' ⟨rfl, rfl⟩)
    go_ret2
    exact ⟨by rw [HR.out]; rfl, rfl⟩
  have haa : (a == 0) = false := by simp [ha0]
  by_cases hb0 : b = 0
  · have HR : Hid (numRes (mulM a b) = .tuple #[.int .i64 0, .bool true]) := by show _ = _; unfold mulM; rw [ha, hb, hb0]; simp; rfl
    have hbb : (b == 0) = true := by simp [hb0]
    clear hb0 ha0
    go_enter Tryd.func109, Tryd.ntmps109
    go_wp2_with (refine (r2in_any _ _).mono ?_; rintro e w' ⟨rfl, rfl⟩)
    go_ret2
    exact ⟨by rw [HR.out]; rfl, rfl⟩
  have hbb : (b == 0) = false := by simp [hb0]
  have h3 : 0 < a := by omega
  have hov := mul_over b a b1 h3
  rw [Int.mul_comm b a] at hov
  have h6 : 0 ≤ a * b := Int.mul_nonneg a1 b1
  have h7 : 0 ≤ 1099511627776 / a := Int.ediv_nonneg (by decide) a1
  rcases Int.lt_or_le (1099511627776 / a) b with h | h
  · have HR : Hid (numRes (mulM a b) = .tuple #[.int .i64 0, .bool false]) := by show _ = _; have := hov.1 h; unfold mulM; rw [ha, hb, if_neg (by simp; omega)]; rfl
    clear hb0 ha0 hov
    go_enter Tryd.func109, Tryd.ntmps109
    go_wp2_with (refine (r2in_any _ _).mono ?_; rintro e w' ⟨rfl, rfl⟩)
    go_ret2
    exact ⟨by rw [HR.out]; rfl, rfl⟩
  · have h8 : a * b ≤ 1099511627776 := by rcases Int.lt_or_le 1099511627776 (a * b) with h9 | h9; have := hov.2 h9; omega; exact h9
    have HR : Hid (numRes (mulM a b) = .tuple #[.int .i64 (a * b), .bool true]) := by show _ = _; unfold mulM; rw [ha, hb, if_pos (by simp; omega)]; rfl
    clear hb0 ha0 hov
    go_enter Tryd.func109, Tryd.ntmps109
    go_wp2_with (refine (r2in_any _ _).mono ?_; rintro e w' ⟨rfl, rfl⟩)
    go_ret2
    exact ⟨by rw [HR.out]; rfl, rfl⟩

theorem up_eq (a b : Int) (ha : 0 ≤ a) (hb : 0 < b) : (if a = 0 then 0 else (a - 1) / b + 1) = if a / b * b < a then a / b + 1 else a / b := by
  have h1 := Int.emod_add_mul_ediv a b
  have h2 := Int.emod_nonneg a (show b ≠ 0 by omega)
  have h3 := Int.emod_lt_of_pos a hb
  rw [Int.mul_comm (a / b) b]
  generalize a % b = r at *
  generalize hq : a / b = q at *
  by_cases h0 : a = 0
  · subst h0
    have : q = 0 := by rw [← hq]; simp
    subst this
    simp
  · rw [if_neg h0]
    have key : ∀ t : Int, b * t ≤ a - 1 → a - 1 < b * t + b → (a - 1) / b = t := fun t h4 h5 => by
      have l1 : t ≤ (a - 1) / b := (Int.le_ediv_iff_mul_le hb).2 (by rw [Int.mul_comm]; exact h4)
      have l2 : (a - 1) / b < t + 1 := (Int.ediv_lt_iff_lt_mul hb).2 (by rw [Int.mul_comm, Int.mul_add, Int.mul_one]; exact h5)
      omega
    by_cases hr : b * q < a
    · rw [if_pos hr, key q (by omega) (by omega)]
    · rw [if_neg hr, key (q - 1) (by rw [Int.mul_sub, Int.mul_one]; omega) (by rw [Int.mul_sub, Int.mul_one]; omega)]
      omega
set_option maxRecDepth 100000 in
set_option maxHeartbeats 1000000 in
theorem r2up_any (a b : Int) (w : World) : Calls Tryd.prog 108 #[.int .i64 a, .int .i64 b] w fun e w' => e = .returned (numRes (upM a b)) ∧ w = w' := by
  cases ha : inM a
  · have HR : Hid (numRes (upM a b) = .tuple #[.int .i64 0, .bool false]) := by show _ = _; unfold upM; rw [ha]; rfl
    go_enter Tryd.func108, Tryd.ntmps108
    go_wp2_with (refine (r2in_any _ _).mono ?_; rintro e w' ⟨rfl, rfl⟩)
    go_ret2
    exact ⟨by rw [HR.out]; rfl, rfl⟩
  cases hb : inM b
  · have HR : Hid (numRes (upM a b) = .tuple #[.int .i64 0, .bool false]) := by show _ = _; unfold upM; rw [ha, hb]; rfl
    go_enter Tryd.func108, Tryd.ntmps108
    go_wp2_with (refine (r2in_any _ _).mono ?_; rintro e w' ⟨rfl, rfl⟩)
    go_ret2
    exact ⟨by rw [HR.out]; rfl, rfl⟩
  obtain ⟨a1, a2⟩ := inM_iff.1 ha
  obtain ⟨b1, b2⟩ := inM_iff.1 hb
  by_cases hb0 : b = 0
  · have HR : Hid (numRes (upM a b) = .tuple #[.int .i64 0, .bool false]) := by show _ = _; unfold upM; rw [ha, hb, hb0]; rfl
    have hbb : (b == 0) = true := by simp [hb0]
    clear hb0
    go_enter Tryd.func108, Tryd.ntmps108
    go_wp2_with (refine (r2in_any _ _).mono ?_; rintro e w' ⟨rfl, rfl⟩)
    go_ret2
    exact ⟨by rw [HR.out]; rfl, rfl⟩
  have hbb : (b == 0) = false := by simp [hb0]
  have h3 : 0 < b := by omega
  have hue := up_eq a b a1 h3
  have h4 : 0 ≤ a / b := Int.ediv_nonneg a1 b1
  have h5 : a / b ≤ 1099511627776 := by have := Int.ediv_le_self b a1; omega
  have h6 : 0 ≤ a / b * b := Int.mul_nonneg h4 b1
  have h7 : a / b * b ≤ a := Int.ediv_mul_le a hb0
  have h8 : a / b * b ≤ 1099511627776 := by omega
  by_cases hr : a / b * b < a
  · have HR : Hid (numRes (upM a b) = .tuple #[.int .i64 (a / b + 1), .bool true]) := by show _ = _; unfold upM; rw [ha, hb, hbb, hue, if_pos hr]; rfl
    clear hb0 hue
    go_enter Tryd.func108, Tryd.ntmps108
    go_wp2_with (refine (r2in_any _ _).mono ?_; rintro e w' ⟨rfl, rfl⟩)
    go_ret2
    exact ⟨by rw [HR.out]; rfl, rfl⟩
  · have HR : Hid (numRes (upM a b) = .tuple #[.int .i64 (a / b), .bool true]) := by show _ = _; unfold upM; rw [ha, hb, hbb, hue, if_neg hr]; rfl
    have hr2 : a ≤ a / b * b := by omega
    clear hb0 hue hr
    go_enter Tryd.func108, Tryd.ntmps108
    go_wp2_with (refine (r2in_any _ _).mono ?_; rintro e w' ⟨rfl, rfl⟩)
    go_ret2
    exact ⟨by rw [HR.out]; rfl, rfl⟩
end Go.Proofs.YtajlkfhekligeaaDoor
