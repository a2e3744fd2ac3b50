/- Numbers from 0 to 2^40: sums, products, quotients, differences; no program in sight. What check's functions answer. What the document's own numbers answer (layer 2). One term's work (demand, and the document's layer 16). One term's work, by the document (layer 16); the term of a task. The term of a task. Sums of rows, by the document (layer 2). The work of several terms, by the document (layer 16). The least time in which all that comes is done: looked for one by one, and by steps. No program in sight. The least time, by the document (layer 16). -/
import Derived.Test.YteflgdnekflbbaaDoorBase
import Derived.Test.YteflgdnekflbbaaDoorRows
import Derived.Test.YteflgdnekflbbaaDoorReg
import Derived.Test.YteflgdnekflbbaaDoorImgMem
import Derived.Test.YteflgdnekflbbaaDoorIter
import Derived.WalkKit
import Derived.WalkSpells
import Derived.WalkLawsBesides
namespace Go.Proofs.YteflgdnekflbbaaDoor
def inM (n : Int) : Bool := decide (0 ≤ n) && decide (n ≤ 1099511627776)
def addM (a b : Int) : Option Int := if inM a && inM b && decide (a + b ≤ 1099511627776) then some (a + b) else none
def mulM (a b : Int) : Option Int := if inM a && inM b && decide (a * b ≤ 1099511627776) then some (a * b) else none
def upM (a b : Int) : Option Int := if inM a && inM b && !(b == 0) then some (if a = 0 then 0 else (a - 1) / b + 1) else none
def lessM (a b : Int) : Option Int := if inM a && inM b then some (max (a - b) 0) else none
def numRes (r : Option Int) : Value := .tuple #[.int .i64 (r.getD 0), .bool r.isSome]
theorem inM_iff {n : Int} : inM n = true ↔ 0 ≤ n ∧ n ≤ 1099511627776 := by unfold inM; simp
theorem inM_no {n : Int} : inM n = false ↔ n < 0 ∨ 1099511627776 < n := by
  rw [← Bool.not_eq_true, inM_iff]; omega
theorem mul_over (a b : Int) (_ha : 0 ≤ a) (hb : 0 < b) : 1099511627776 / b < a ↔ 1099511627776 < a * b := by
  constructor
  · intro h
    exact (Int.ediv_lt_iff_lt_mul hb).1 h
  · intro h
    exact (Int.ediv_lt_iff_lt_mul hb).2 h

end Go.Proofs.YteflgdnekflbbaaDoor

namespace Go.Proofs.YteflgdnekflbbaaDoor
open Go.RowKit

theorem cin_any (n : Int) (w : World) : Calls Tryd.prog 81 #[.int .i64 n] w fun e w' => e = .returned (.bool (inM n)) ∧ w = w' := by
  have hc : (n < 0) ∨ (0 ≤ n ∧ 1099511627776 < n) ∨ (0 ≤ n ∧ n ≤ 1099511627776) := by omega
  have HI : Hid (inM n = (decide (0 ≤ n) && decide (n ≤ 1099511627776))) := show _ = _ from rfl
  rcases hc with h | ⟨h1, h2⟩ | ⟨h1, h2⟩
  all_goals
    go_enter Tryd.func81, Tryd.ntmps81
    go_wp2
    go_ret
    exact ⟨by rw [HI.out]; simp <;> omega, rfl⟩

set_option maxRecDepth 100000 in
set_option maxHeartbeats 1000000 in
theorem cadd_any (a b : Int) (w : World) : Calls Tryd.prog 77 #[.int .i64 a, .int .i64 b] w fun e w' => e = .returned (numRes (addM a b)) ∧ w = w' := by
  cases ha : inM a
  · have HR : Hid (numRes (addM a b) = .tuple #[.int .i64 0, .bool false]) := by show _ = _; unfold addM; rw [ha]; rfl
    go_enter Tryd.func77, Tryd.ntmps77
    go_wp2_with (refine (cin_any _ _).mono ?_; rintro e w' ⟨rfl, rfl⟩)
    go_ret2
    exact ⟨by rw [HR.out]; rfl, rfl⟩
  cases hb : inM b
  · have HR : Hid (numRes (addM a b) = .tuple #[.int .i64 0, .bool false]) := by show _ = _; unfold addM; rw [ha, hb]; rfl
    go_enter Tryd.func77, Tryd.ntmps77
    go_wp2_with (refine (cin_any _ _).mono ?_; rintro e w' ⟨rfl, rfl⟩)
    go_ret2
    exact ⟨by rw [HR.out]; rfl, rfl⟩
  obtain ⟨a1, a2⟩ := inM_iff.1 ha
  obtain ⟨b1, b2⟩ := inM_iff.1 hb
  rcases Int.lt_or_le (1099511627776 - a) b with h | h
  · have HR : Hid (numRes (addM a b) = .tuple #[.int .i64 0, .bool false]) := by show _ = _; unfold addM; rw [ha, hb, if_neg (by simp; omega)]; rfl
    go_enter Tryd.func77, Tryd.ntmps77
    go_wp2_with (refine (cin_any _ _).mono ?_; rintro e w' ⟨rfl, rfl⟩)
    go_ret2
    exact ⟨by rw [HR.out]; rfl, rfl⟩
  · have HR : Hid (numRes (addM a b) = .tuple #[.int .i64 (a + b), .bool true]) := by show _ = _; unfold addM; rw [ha, hb, if_pos (by simp; omega)]; rfl
    go_enter Tryd.func77, Tryd.ntmps77
    go_wp2_with (refine (cin_any _ _).mono ?_; rintro e w' ⟨rfl, rfl⟩)
    go_ret2
    exact ⟨by rw [HR.out]; rfl, rfl⟩

set_option maxRecDepth 100000 in
set_option maxHeartbeats 1000000 in
theorem cless_any (a b : Int) (w : World) : Calls Tryd.prog 87 #[.int .i64 a, .int .i64 b] w fun e w' => e = .returned (numRes (lessM a b)) ∧ w = w' := by
  cases ha : inM a
  · have HR : Hid (numRes (lessM a b) = .tuple #[.int .i64 0, .bool false]) := by show _ = _; unfold lessM; rw [ha]; rfl
    go_enter Tryd.func87, Tryd.ntmps87
    go_wp2_with (refine (cin_any _ _).mono ?_; rintro e w' ⟨rfl, rfl⟩)
    go_ret2
    exact ⟨by rw [HR.out]; rfl, rfl⟩
  cases hb : inM b
  · have HR : Hid (numRes (lessM a b) = .tuple #[.int .i64 0, .bool false]) := by show _ = _; unfold lessM; rw [ha, hb]; rfl
    go_enter Tryd.func87, Tryd.ntmps87
    go_wp2_with (refine (cin_any _ _).mono ?_; rintro e w' ⟨rfl, rfl⟩)
    go_ret2
    exact ⟨by rw [HR.out]; rfl, rfl⟩
  obtain ⟨a1, a2⟩ := inM_iff.1 ha
  obtain ⟨b1, b2⟩ := inM_iff.1 hb
  rcases Int.lt_or_le (a - b) 0 with h | h
  · have HR : Hid (numRes (lessM a b) = .tuple #[.int .i64 0, .bool true]) := by show _ = _; unfold lessM; rw [ha, hb, show max (a - b) 0 = 0 by omega]; rfl
    go_enter Tryd.func87, Tryd.ntmps87
    go_wp2_with (refine (cin_any _ _).mono ?_; rintro e w' ⟨rfl, rfl⟩)
    go_ret2
    exact ⟨by rw [HR.out]; rfl, rfl⟩
  · have HR : Hid (numRes (lessM a b) = .tuple #[.int .i64 (a - b), .bool true]) := by show _ = _; unfold lessM; rw [ha, hb, show max (a - b) 0 = a - b by omega]; rfl
    go_enter Tryd.func87, Tryd.ntmps87
    go_wp2_with (refine (cin_any _ _).mono ?_; rintro e w' ⟨rfl, rfl⟩)
    go_ret2
    exact ⟨by rw [HR.out]; rfl, rfl⟩

set_option maxRecDepth 100000 in
set_option maxHeartbeats 1000000 in
theorem cup_any (a b : Int) (w : World) : Calls Tryd.prog 88 #[.int .i64 a, .int .i64 b] w fun e w' => e = .returned (numRes (upM a b)) ∧ w = w' := by
  cases ha : inM a
  · have HR : Hid (numRes (upM a b) = .tuple #[.int .i64 0, .bool false]) := by show _ = _; unfold upM; rw [ha]; rfl
    go_enter Tryd.func88, Tryd.ntmps88
    go_wp2_with (refine (cin_any _ _).mono ?_; rintro e w' ⟨rfl, rfl⟩)
    go_ret2
    exact ⟨by rw [HR.out]; rfl, rfl⟩
  cases hb : inM b
  · have HR : Hid (numRes (upM a b) = .tuple #[.int .i64 0, .bool false]) := by show _ = _; unfold upM; rw [ha, hb]; rfl
    go_enter Tryd.func88, Tryd.ntmps88
    go_wp2_with (refine (cin_any _ _).mono ?_; rintro e w' ⟨rfl, rfl⟩)
    go_ret2
    exact ⟨by rw [HR.out]; rfl, rfl⟩
  obtain ⟨a1, a2⟩ := inM_iff.1 ha
  obtain ⟨b1, b2⟩ := inM_iff.1 hb
  by_cases hb0 : b = 0
  · have HR : Hid (numRes (upM a b) = .tuple #[.int .i64 0, .bool false]) := by show _ = _; unfold upM; rw [ha, hb, hb0]; rfl
    have hbb : (b == 0) = true := by simp [hb0]
    clear hb0
    go_enter Tryd.func88, Tryd.ntmps88
    go_wp2_with (refine (cin_any _ _).mono ?_; rintro e w' ⟨rfl, rfl⟩)
    go_ret2
    exact ⟨by rw [HR.out]; rfl, rfl⟩
  have hbb : (b == 0) = false := by simp [hb0]
  by_cases ha0 : a = 0
  · have HR : Hid (numRes (upM a b) = .tuple #[.int .i64 0, .bool true]) := by show _ = _; unfold upM; rw [ha, hb, hbb]; simp only [Bool.not_false, Bool.and_self, if_true, if_pos ha0]; rfl
    have haa : (a == 0) = true := by simp [ha0]
    clear hb0 ha0
    go_enter Tryd.func88, Tryd.ntmps88
    go_wp2_with (refine (cin_any _ _).mono ?_; rintro e w' ⟨rfl, rfl⟩)
    go_ret2
    exact ⟨by rw [HR.out]; rfl, rfl⟩
  · have HR : Hid (numRes (upM a b) = .tuple #[.int .i64 ((a - 1) / b + 1), .bool true]) := by show _ = _; unfold upM; rw [ha, hb, hbb]; simp only [Bool.not_false, Bool.and_self, if_true, if_neg ha0]; rfl
    have haa : (a == 0) = false := by simp [ha0]
    have h1 : 0 ≤ a - 1 := by omega
    have h2 : 1 ≤ a := by omega
    have h3 : 0 < b := by omega
    have h4 : 0 ≤ (a - 1) / b := Int.ediv_nonneg h1 b1
    have h5 : (a - 1) / b ≤ 1099511627776 := by have := Int.ediv_le_self b h1; omega
    clear hb0 ha0
    go_enter Tryd.func88, Tryd.ntmps88
    go_wp2_with (refine (cin_any _ _).mono ?_; rintro e w' ⟨rfl, rfl⟩)
    go_ret2
    exact ⟨by rw [HR.out]; rfl, rfl⟩

set_option maxRecDepth 100000 in
set_option maxHeartbeats 1000000 in
theorem cmul_any (a b : Int) (w : World) : Calls Tryd.prog 86 #[.int .i64 a, .int .i64 b] w fun e w' => e = .returned (numRes (mulM a b)) ∧ w = w' := by
  cases ha : inM a
  · have HR : Hid (numRes (mulM a b) = .tuple #[.int .i64 0, .bool false]) := by show _ = _; unfold mulM; rw [ha]; rfl
    go_enter Tryd.func86, Tryd.ntmps86
    go_wp2_with (refine (cin_any _ _).mono ?_; rintro e w' ⟨rfl, rfl⟩)
    go_ret2
    exact ⟨by rw [HR.out]; rfl, rfl⟩
  cases hb : inM b
  · have HR : Hid (numRes (mulM a b) = .tuple #[.int .i64 0, .bool false]) := by show _ = _; unfold mulM; rw [ha, hb]; rfl
    go_enter Tryd.func86, Tryd.ntmps86
    go_wp2_with (refine (cin_any _ _).mono ?_; rintro e w' ⟨rfl, rfl⟩)
    go_ret2
    exact ⟨by rw [HR.out]; rfl, rfl⟩
  obtain ⟨a1, a2⟩ := inM_iff.1 ha
  obtain ⟨b1, b2⟩ := inM_iff.1 hb
  by_cases hb0 : b = 0
  · have HR : Hid (numRes (mulM a b) = .tuple #[.int .i64 0, .bool true]) := by show _ = _; unfold mulM; rw [ha, hb, hb0]; simp; rfl
    have hbb : (b != 0) = false := by simp [hb0]
    subst hb0
    go_enter Tryd.func86, Tryd.ntmps86
    go_wp2_with (refine (cin_any _ _).mono ?_; rintro e w' ⟨rfl, rfl⟩)
    go_ret2
    exact ⟨by rw [HR.out]; rfl, rfl⟩
  have hbb : (b != 0) = true := by simp [hb0]
  have h3 : 0 < b := by omega
  have hov := mul_over a b a1 h3
  have h6 : 0 ≤ a * b := Int.mul_nonneg a1 b1
  have h7 : 0 ≤ 1099511627776 / b := Int.ediv_nonneg (by decide) b1
  rcases Int.lt_or_le (1099511627776 / b) a with h | h
  · have HR : Hid (numRes (mulM a b) = .tuple #[.int .i64 0, .bool false]) := by show _ = _; have := hov.1 h; unfold mulM; rw [ha, hb, if_neg (by simp; omega)]; rfl
    clear hb0 hov
    go_enter Tryd.func86, Tryd.ntmps86
    go_wp2_with (refine (cin_any _ _).mono ?_; rintro e w' ⟨rfl, rfl⟩)
    go_ret2
    exact ⟨by rw [HR.out]; rfl, rfl⟩
  · have h8 : a * b ≤ 1099511627776 := by rcases Int.lt_or_le 1099511627776 (a * b) with h9 | h9; have := hov.2 h9; omega; exact h9
    have HR : Hid (numRes (mulM a b) = .tuple #[.int .i64 (a * b), .bool true]) := by show _ = _; unfold mulM; rw [ha, hb, if_pos (by simp; omega)]; rfl
    clear hb0 hov
    go_enter Tryd.func86, Tryd.ntmps86
    go_wp2_with (refine (cin_any _ _).mono ?_; rintro e w' ⟨rfl, rfl⟩)
    go_ret2
    exact ⟨by rw [HR.out]; rfl, rfl⟩

end Go.Proofs.YteflgdnekflbbaaDoor

namespace Go.Proofs.YteflgdnekflbbaaDoor
open Go.RowKit

theorem up_eq (a b : Int) (ha : 0 ≤ a) (hb : 0 < b) : (if a = 0 then 0 else (a - 1) / b + 1) = if a / b * b < a then a / b + 1 else a / b := by
  have h1 := Int.emod_add_mul_ediv a b
  have h2 := Int.emod_nonneg a (show b ≠ 0 by omega)
  have h3 := Int.emod_lt_of_pos a hb
  rw [Int.mul_comm (a / b) b]
  generalize a % b = r at *
  generalize hq : a / b = q at *
  by_cases h0 : a = 0
  · subst h0
    have : q = 0 := by rw [← hq]; simp
    subst this
    simp
  · rw [if_neg h0]
    have key : ∀ t : Int, b * t ≤ a - 1 → a - 1 < b * t + b → (a - 1) / b = t := fun t h4 h5 => by
      have l1 : t ≤ (a - 1) / b := (Int.le_ediv_iff_mul_le hb).2 (by rw [Int.mul_comm]; exact h4)
      have l2 : (a - 1) / b < t + 1 := (Int.ediv_lt_iff_lt_mul hb).2 (by rw [Int.mul_comm, Int.mul_add, Int.mul_one]; exact h5)
      omega
    by_cases hr : b * q < a
    · rw [if_pos hr, key q (by omega) (by omega)]
    · rw [if_neg hr, key (q - 1) (by rw [Int.mul_sub, Int.mul_one]; omega) (by rw [Int.mul_sub, Int.mul_one]; omega)]
      omega
end Go.Proofs.YteflgdnekflbbaaDoor

namespace Go.Proofs.YteflgdnekflbbaaDoor
open Go.RowKit

theorem numRes_none : numRes none = .tuple #[.int .i64 0, .bool false] := rfl
theorem numRes_eq (r : Option Int) : numRes r = .tuple #[.int .i64 (r.getD 0), .bool r.isSome] := rfl
theorem numRes_some (n : Int) : numRes (some n) = .tuple #[.int .i64 n, .bool true] := rfl
/-- Work that comes again and again. -/
structure Trm where
  per : Int
  cost : Int
  off : Int
  car : Int
  deriving DecidableEq, Inhabited
def trmCells (t : Trm) : List Value := [.int .i64 t.per, .int .i64 t.cost, .int .i64 t.off, .int .i64 t.car]
def jobsM (t : Trm) (n : Int) : Option Int := (lessM n t.off).bind (fun d => upM d t.per)
def workM (t : Trm) (n : Int) : Option Int := (jobsM t n).bind (fun j => (mulM j t.cost).bind (fun c => addM c t.car))
theorem agg_term : AggOf Tryd.prog 144 4 := ⟨by kernel_rfl, by kernel_rfl⟩

set_option maxRecDepth 100000 in
set_option maxHeartbeats 1000000 in
theorem jobs_any (t : Trm) (n : Int) (w : World) : Calls Tryd.prog 85 #[.agg (trmCells t).toArray, .int .i64 n] w fun e w' => e = .returned (numRes (jobsM t n)) ∧ Keep [] w w' := by
  have K0 := Lib.hid ((Keep.refl [] w).alloc (.cells (trmCells t).toArray 144))
  cases hl : lessM n t.off with
  | none =>
    have HR : Hid (numRes (jobsM t n) = .tuple #[.int .i64 0, .bool false]) := by show _ = _; unfold jobsM; rw [hl]; rfl
    unfold trmCells at *
    go_enter Tryd.func85, Tryd.ntmps85
    go_wp2_with (refine (cless_any _ _ _).mono ?_; rintro e w' ⟨rfl, rfl⟩; rw [hl, numRes_none])
    go_ret2
    exact ⟨by rw [HR.out]; rfl, K0.out⟩
  | some d =>
    have HR : Hid (numRes (jobsM t n) = numRes (upM d t.per)) := by show _ = _; unfold jobsM; rw [hl]; rfl
    unfold trmCells at *
    go_enter Tryd.func85, Tryd.ntmps85
    go_wp2_with (first
      | (refine (cless_any _ _ _).mono ?_; rintro e w' ⟨rfl, rfl⟩; rw [hl, numRes_some])
      | (refine (cup_any _ _ _).mono ?_; rintro e w' ⟨rfl, rfl⟩; rw [numRes_eq]))
    go_ret2
    exact ⟨by rw [HR.out]; rfl, K0.out⟩

set_option maxRecDepth 100000 in
set_option maxHeartbeats 1000000 in
theorem work_any (t : Trm) (n : Int) (w : World) : Calls Tryd.prog 84 #[.agg (trmCells t).toArray, .int .i64 n] w fun e w' => e = .returned (numRes (workM t n)) ∧ Keep [] w w' := by
  have hb0 := Blk.new w 144 (trmCells t).toArray
  have K0 := (Keep.refl [] w).alloc (.cells (trmCells t).toArray 144)
  obtain ⟨W0, hW0⟩ : ∃ W0, w.alloc (.cells (trmCells t).toArray 144) = W0 := ⟨_, rfl⟩
  rw [hW0] at hb0 K0
  have hF : Hid (∀ W, Keep [] W0 W → W.cell? ⟨w.heap.size, 1, none⟩ = some (.int .i64 t.cost) ∧ W.cell? ⟨w.heap.size, 3, none⟩ = some (.int .i64 t.car)) := fun W hk =>
    ⟨by rw [(hb0.keep0 hk).cell]; rfl, by rw [(hb0.keep0 hk).cell]; rfl⟩
  have HA : Hid (AggOf Tryd.prog 144 (trmCells t).length ∧ CellsAt W0 w.heap.size 0 (trmCells t)) := ⟨agg_term, hb0.cellsAt⟩
  have HJ := Lib.hid (jobs_any t n W0)
  clear hb0
  cases hj : jobsM t n with
  | none =>
    have HR : Hid (numRes (workM t n) = .tuple #[.int .i64 0, .bool false]) := by show _ = _; unfold workM; rw [hj]; rfl
    generalize trmCells t = tc at *
    go_enter Tryd.func84, Tryd.ntmps84
    go_wp2_with (refine wpList_load_agg rfl 144 (.tmp 2) rfl rfl (cs := tc) HA.out.1 HA.out.2 ?_)
    refine HJ.out.mono ?_
    rintro e w1 ⟨rfl, k1⟩
    rw [hj, numRes_none]
    have K1 := Lib.hid (K0.then k1)
    clear k1
    go_wp2
    go_ret2
    exact ⟨by rw [HR.out]; rfl, K1.out⟩
  | some j =>
    have HC := fun W => Lib.hid (cmul_any j t.cost W)
    cases hm : mulM j t.cost with
    | none =>
      have HR : Hid (numRes (workM t n) = .tuple #[.int .i64 0, .bool false]) := by show _ = _; unfold workM; rw [hj]; show numRes ((mulM j t.cost).bind _) = _; rw [hm]; rfl
      generalize trmCells t = tc at *
      go_enter Tryd.func84, Tryd.ntmps84
      go_wp2_with (refine wpList_load_agg rfl 144 (.tmp 2) rfl rfl (cs := tc) HA.out.1 HA.out.2 ?_)
      refine HJ.out.mono ?_
      rintro e w1 ⟨rfl, k1⟩
      rw [hj, numRes_some]
      have K1 := Lib.hid (K0.then k1)
      obtain ⟨c1, c2⟩ := hF.out _ k1
      clear k1
      go_wp2_with (refine (HC _).out.mono ?_; rintro e w2 ⟨rfl, rfl⟩; rw [hm, numRes_none])
      go_ret2
      exact ⟨by rw [HR.out]; rfl, K1.out⟩
    | some c =>
      have HR : Hid (numRes (workM t n) = numRes (addM c t.car)) := by show _ = _; unfold workM; rw [hj]; show numRes ((mulM j t.cost).bind _) = _; rw [hm]; rfl
      generalize trmCells t = tc at *
      go_enter Tryd.func84, Tryd.ntmps84
      go_wp2_with (refine wpList_load_agg rfl 144 (.tmp 2) rfl rfl (cs := tc) HA.out.1 HA.out.2 ?_)
      refine HJ.out.mono ?_
      rintro e w1 ⟨rfl, k1⟩
      rw [hj, numRes_some]
      have K1 := Lib.hid (K0.then k1)
      obtain ⟨c1, c2⟩ := hF.out _ k1
      clear k1
      go_wp2_with (first
        | (refine (HC _).out.mono ?_; rintro e w2 ⟨rfl, rfl⟩; rw [hm, numRes_some])
        | (refine (cadd_any _ _ _).mono ?_; rintro e w2 ⟨rfl, rfl⟩; rw [numRes_eq]))
      go_ret2
      exact ⟨by rw [HR.out]; rfl, K1.out⟩

end Go.Proofs.YteflgdnekflbbaaDoor

namespace Go.Proofs.YteflgdnekflbbaaDoor
open Go.RowKit

def trmOf (t : Tsk) : Trm := ⟨t.per, t.cost, 0, 0⟩
theorem tsk_get (t : Tsk) : (tskCells t)[0]? = some (.int .i64 t.per) ∧ (tskCells t)[2]? = some (.int .i64 t.cost) := ⟨rfl, rfl⟩
set_option maxRecDepth 100000 in
set_option maxHeartbeats 1000000 in
theorem demOf_any (t : Tsk) (w : World) : Calls Tryd.prog 71 #[.agg (tskCells t).toArray, .int .i64 0] w fun e w' => e = .returned (.agg (trmCells (trmOf t)).toArray) ∧ Keep [] w w' := by
  have hb0 := Blk.new w 88 (tskCells t).toArray
  have K0 := (Keep.refl [] w).alloc (.cells (tskCells t).toArray 88)
  obtain ⟨W0, hW0⟩ : ∃ W0, w.alloc (.cells (tskCells t).toArray 88) = W0 := ⟨_, rfl⟩
  have hs0 : Hid (W0.heap.size = w.heap.size + 1) := by show _ = _; rw [← hW0]; simp
  rw [hW0] at hb0 K0
  have HW := Lib.hid hW0
  have K1 := Lib.hid K0
  have hF : Hid (∀ W, Keep [] W0 W → W.cell? ⟨w.heap.size, 0, none⟩ = some (.int .i64 t.per) ∧ W.cell? ⟨w.heap.size, 2, none⟩ = some (.int .i64 t.cost)) := fun W hk =>
    ⟨by rw [(hb0.keep0 hk).cell]; rfl, by rw [(hb0.keep0 hk).cell]; rfl⟩
  have HC : Hid ((trmCells (trmOf t)) = [.int .i64 t.per, .int .i64 t.cost, .int .i64 0, .int .i64 0]) := show _ = _ from rfl
  obtain ⟨c1, c2⟩ := hF.out _ ((Keep.refl [] W0).alloc (.cells #[.int .i64 0, .int .i64 0, .int .i64 0, .int .i64 0] 144))
  clear hb0 K0 hW0
  generalize tskCells t = tc at *
  go_enter Tryd.func71, Tryd.ntmps71
  go_wp2_with (first | rw [HW.out] | refine stop_store 144 (.tmp 4) (.tmp 10) rfl ?_)
  constructor
  refine wpList_store_all rfl 144 (.tmp 4) (.tmp 10) rfl rfl rfl (t := 144) (cs := #[.int .i64 0, .int .i64 0, .int .i64 0, .int .i64 0]) (vs := trmCells (trmOf t)) agg_term.2 (Blk.new _ _ _) (by simp [trmCells, Value.oneCell']) rfl ?_
  intro w' d k'
  have K2 : Hid (Keep [] w w') := (K1.out.alloc _).trans k' (fun x hx hlt => by
    have := hs0.out
    simp at hx; omega)
  clear k'
  go_wp2
  refine bodyPost_ret (results_blk rfl _ rfl d agg_term) rfl ?_
  exact ⟨rfl, K2.out⟩

end Go.Proofs.YteflgdnekflbbaaDoor

namespace Go.Proofs.YteflgdnekflbbaaDoor
open Go.RowKit

/-- The sum of a row behind a number, as far as it goes. -/
def sumFrom : Int → List Int → Option Int
  | n, [] => some n
  | n, a :: l => (addM n a).bind (fun m => sumFrom m l)

end Go.Proofs.YteflgdnekflbbaaDoor

namespace Go.Proofs.YteflgdnekflbbaaDoor
open Go.RowKit

section
variable {P : Program} {ops : Array Oper} {rest : List Oper} {o : Oper} {a : Act} {Q : Exit → Act → World → Prop} {wr : World} {e : TypeId}
/-- 'out = append(out, x, y, ..)': out is the call's own. -/
theorem wpList_app_row {us : List Value} (m : Nat)
    (hgd : o.guard = none) (s x : Operand) (t : TypeId) (ho : o.op = .call { callee := .builtin .append, args := #[s, x], argTypes := #[t, t] })
    {size bytes : Nat} (hS : SliceOf P t e size bytes) {B : Nat} {v : Value} {n : Nat} {xs : List Value} (hown : wr.ownsRow B e size v n xs) (hs : a.eval s = v) (hx : a.eval x = .slice (some ⟨wr.heap.size, 0, none⟩) m m)
    (hl : us.length = m * size) (h1 : ∀ u ∈ us, u.oneCell' = true) (hB : B ≤ wr.heap.size) (hb : (n + m) * bytes ≤ 140737488355328) (h63 : n + m ≤ maxLen)
    (h : ∀ v' w', w'.ownsRow B e size v' (n + m) (xs ++ us) → Keep v.ownBlock.toList wr w' → (v'.ownBlock = v.ownBlock ∨ v'.ownBlock = some (wr.heap.size + 1)) → wpList P ops Q rest (a.put o.dst v') w') :
    wpList P ops Q (o :: rest) a (wr.alloc (.cells us.toArray e)) := by
  obtain ⟨ht, ⟨i, z, hi, hz, hsz, hby, hzs⟩, hpos⟩ := hS.parts
  obtain ⟨v', w', hr, h2, h3, _, h5⟩ := run_append_own_at (P := P) (wr.alloc (.cells us.toArray e)) B t o.type e i z size bytes ht hi hz hsz hby hzs hpos v n xs (hown.alloc _) ⟨wr.heap.size, 0, none⟩ m m us hl
    (by
      intro j u hu
      rw [add_of_block]
      show World.cell? _ _ = _
      simp only [World.cell?, heap_alloc_new]
      simpa using hu) h1 h63 hb (by simp; omega)
  refine wpList_plain hgd fun K hK => ?_
  unfold Oper.wp execOp
  simp only [ho, resolve, invoke, builtin, Sem.run_bind, Sem.run_pure, Result.andThen_ok, List.map_toArray, List.map_cons, List.map_nil, hs, hx, hr]
  refine hK _ _ (h v' w' h2 ?_ (by simpa using h5))
  have hk := Keep.of_grown h3
  exact ((Keep.refl _ wr).alloc _).trans hk (fun x hx _ => hx)
end
theorem slice_intR : SliceOf Tryd.prog 29 3 1 8 := ⟨Tryd.underlying29, by kernel_rfl, by decide⟩
/-- The work of each term; none: one of them is none. -/
def worksM (n : Int) : List Trm → Option (List Int)
  | [] => some []
  | t :: l => (workM t n).bind (fun x => (worksM n l).map (fun r => x :: r))
def allM (ts : List Trm) (n : Int) : Option Int := (worksM n ts).bind (sumFrom 0)
/-- Behind k terms. -/
theorem worksM_step (n : Int) (ts : List Trm) (k : Nat) (hk : k < ts.length) (pre : List Int) (h : worksM n ts = (worksM n (ts.drop k)).map (fun r => pre ++ r)) :
    (workM ts[k] n = none → worksM n ts = none) ∧ (∀ x, workM ts[k] n = some x → worksM n ts = (worksM n (ts.drop (k + 1))).map (fun r => (pre ++ [x]) ++ r)) := by
  rw [List.drop_eq_getElem_cons hk, worksM] at h
  constructor
  · intro hx; rw [h, hx]; rfl
  · intro x hx
    rw [h, hx]
    show ((worksM n _).map _).map _ = _
    rw [Option.map_map]
    congr 1
    funext r
    simp
theorem trm_len (t : Trm) : (trmCells t).length = 4 := rfl
end Go.Proofs.YteflgdnekflbbaaDoor

namespace Go.Proofs.YteflgdnekflbbaaDoor
/-- One look: what is there at first, and what comes. -/
def stepM (own : Int) (f : Int → Option Int) (w : Int) : Option Int := (f w).bind (addM own)
/-- One by one. -/
def upFrom (own most : Int) (f : Int → Option Int) : Nat → Int → Option Int
  | 0, _ => none
  | k + 1, w => (stepM own f w).bind (fun s => if s ≤ w then some w else upFrom own most f k (w + 1))
def leastR (own most : Int) (f : Int → Option Int) : Option Int := if own < 0 then none else upFrom own most f (most + 1 - max own 1).toNat (max own 1)
/-- By steps. -/
def itFrom (own most : Int) (f : Int → Option Int) : Nat → Int → Option Int
  | 0, _ => none
  | k + 1, w => if w ≤ most then (stepM own f w).bind (fun s => if s ≤ w then some w else itFrom own most f k s) else none
def leastM (own most : Int) (f : Int → Option Int) : Option Int := if own < 0 then none else itFrom own most f (most + 1 - max own 1).toNat (max own 1)

theorem upFrom_step (own most : Int) (f : Int → Option Int) (w : Int) (h : w ≤ most) :
    upFrom own most f (most + 1 - w).toNat w = (stepM own f w).bind (fun s => if s ≤ w then some w else upFrom own most f (most + 1 - (w + 1)).toNat (w + 1)) := by
  rw [show (most + 1 - w).toNat = (most + 1 - (w + 1)).toNat + 1 by omega, upFrom]
theorem upFrom_end (own most : Int) (f : Int → Option Int) (w : Int) (h : most < w) : upFrom own most f (most + 1 - w).toNat w = none := by
  rw [show (most + 1 - w).toNat = 0 by omega, upFrom]
/-- More fuel does no harm. -/
theorem itFrom_fuel (own most : Int) (f : Int → Option Int) : ∀ (k j : Nat) (w : Int), most + 1 - w ≤ k → most + 1 - w ≤ j → itFrom own most f k w = itFrom own most f j w
  | 0, 0, _, _, _ => rfl
  | 0, j + 1, w, h1, _ => by rw [itFrom, itFrom, if_neg (by omega)]
  | k + 1, 0, w, _, h2 => by rw [itFrom, itFrom, if_neg (by omega)]
  | k + 1, j + 1, w, h1, h2 => by
    rw [itFrom, itFrom]
    split
    · congr 1
      funext s
      split
      · rfl
      · exact itFrom_fuel own most f k j s (by omega) (by omega)
    · rfl
theorem itFrom_step (own most : Int) (f : Int → Option Int) (w : Int) (h : w ≤ most) :
    itFrom own most f (most + 1 - w).toNat w = (stepM own f w).bind (fun s => if s ≤ w then some w else itFrom own most f (most + 1 - s).toNat s) := by
  rw [show (most + 1 - w).toNat = (most - w).toNat + 1 by omega, itFrom, if_pos h]
  congr 1
  funext s
  split
  · rfl
  · exact itFrom_fuel own most f _ _ s (by omega) (by omega)
theorem itFrom_end (own most : Int) (f : Int → Option Int) (w : Int) (h : most < w) : itFrom own most f (most + 1 - w).toNat w = none := by
  rw [show (most + 1 - w).toNat = 0 by omega, itFrom]

/-- The answer one by one: the least one that is enough, where each look answers. -/
theorem upFrom_spec (own most : Int) (f : Int → Option Int) : ∀ (k : Nat) (w : Int), most + 1 - w ≤ k → (∀ v, w ≤ v → v ≤ most → ∃ s, stepM own f v = some s) →
    (∃ n, upFrom own most f (most + 1 - w).toNat w = some n ∧ w ≤ n ∧ n ≤ most ∧ (∃ s, stepM own f n = some s ∧ s ≤ n) ∧ ∀ v, w ≤ v → v < n → ∃ s, stepM own f v = some s ∧ v < s) ∨
    (upFrom own most f (most + 1 - w).toNat w = none ∧ ∀ v, w ≤ v → v ≤ most → ∃ s, stepM own f v = some s ∧ v < s)
  | 0, w, hk, _ => .inr ⟨upFrom_end _ _ _ _ (by omega), fun v h1 h2 => by omega⟩
  | k + 1, w, hk, ha => by
    rcases Int.lt_or_le most w with hw | hw
    · exact .inr ⟨upFrom_end _ _ _ _ hw, fun v h1 h2 => by omega⟩
    · rw [upFrom_step _ _ _ _ hw]
      obtain ⟨s, hs⟩ := ha w (Int.le_refl _) hw
      rw [hs]
      show (∃ n, (if s ≤ w then some w else _) = some n ∧ _) ∨ ((if s ≤ w then some w else _) = none ∧ _)
      by_cases hsw : s ≤ w
      · rw [if_pos hsw]
        exact .inl ⟨w, rfl, Int.le_refl _, hw, ⟨s, hs, hsw⟩, fun v h1 h2 => by omega⟩
      · rw [if_neg hsw]
        have hall : ∀ (P : Int → Prop), (∀ v, w + 1 ≤ v → P v → ∃ s, stepM own f v = some s ∧ v < s) → ∀ v, w ≤ v → P v → ∃ s, stepM own f v = some s ∧ v < s := fun P h v h1 h2 => by
          rcases Int.lt_or_le w v with h3 | h3
          · exact h v (by omega) h2
          · obtain rfl : v = w := by omega
            exact ⟨s, hs, by omega⟩
        rcases upFrom_spec own most f k (w + 1) (by omega) (fun v h1 h2 => ha v (by omega) h2) with ⟨n, h1, h2, h3, h4, h5⟩ | ⟨h1, h2⟩
        · exact .inl ⟨n, h1, by omega, h3, h4, hall (fun v => v < n) h5⟩
        · exact .inr ⟨h1, hall (fun v => v ≤ most) h2⟩
/-- By steps the same is found: where each look answers, and more time brings no less. -/
theorem itFrom_up (own most : Int) (f : Int → Option Int) : ∀ (k : Nat) (w : Int), most + 1 - w ≤ k → (∀ v, w ≤ v → v ≤ most → ∃ s, stepM own f v = some s) →
    (∀ u v s t, w ≤ u → u ≤ v → v ≤ most → stepM own f u = some s → stepM own f v = some t → s ≤ t) → itFrom own most f (most + 1 - w).toNat w = upFrom own most f (most + 1 - w).toNat w
  | 0, w, hk, _, _ => by rw [itFrom_end _ _ _ _ (by omega), upFrom_end _ _ _ _ (by omega)]
  | k + 1, w, hk, ha, hm => by
    rcases Int.lt_or_le most w with hw | hw
    · rw [itFrom_end _ _ _ _ hw, upFrom_end _ _ _ _ hw]
    · obtain ⟨s, hs⟩ := ha w (Int.le_refl _) hw
      rw [itFrom_step _ _ _ _ hw, hs]
      show (if s ≤ w then some w else _) = _
      by_cases hsw : s ≤ w
      · rw [upFrom_step _ _ _ _ hw, hs]
        show _ = (if s ≤ w then some w else _)
        rw [if_pos hsw, if_pos hsw]
      · rw [if_neg hsw, itFrom_up own most f k s (by omega) (fun v h1 h2 => ha v (by omega) h2) (fun u v p q h1 h2 h3 => hm u v p q (by omega) h2 h3)]
        -- all from w up to s - 1 are not enough
        have key : ∀ (j : Nat) (v : Int), w ≤ v → v + j = s → upFrom own most f (most + 1 - v).toNat v = upFrom own most f (most + 1 - s).toNat s := by
          intro j
          induction j with
          | zero => intro v _ h2; obtain rfl : v = s := by omega
                    rfl
          | succ j ih =>
            intro v h1 h2
            rcases Int.lt_or_le most v with h3 | h3
            · rw [upFrom_end _ _ _ _ h3, upFrom_end _ _ _ _ (by omega)]
            · obtain ⟨t, ht⟩ := ha v h1 h3
              have := hm w v s t (Int.le_refl _) h1 h3 hs ht
              rw [upFrom_step _ _ _ _ h3, ht]
              show (if t ≤ v then some v else _) = _
              rw [if_neg (by omega), ih (v + 1) (by omega) (by omega)]
        exact (key (s - w).toNat w (Int.le_refl _) (by omega)).symm
theorem least_same (own most : Int) (f : Int → Option Int) (ha : ∀ v, max own 1 ≤ v → v ≤ most → ∃ s, stepM own f v = some s)
    (hm : ∀ u v s t, max own 1 ≤ u → u ≤ v → v ≤ most → stepM own f u = some s → stepM own f v = some t → s ≤ t) : leastM own most f = leastR own most f := by
  unfold leastM leastR
  split
  · rfl
  · exact itFrom_up own most f _ _ (Int.self_le_toNat _) ha hm

end Go.Proofs.YteflgdnekflbbaaDoor
