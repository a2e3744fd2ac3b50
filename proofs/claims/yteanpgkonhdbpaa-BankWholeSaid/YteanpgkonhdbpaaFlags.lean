/- What the methods of flags answer and leave, for any set of flags and any argument: each walks its Go text; no condition. -/
import Derived.Test.YteanpgkonhdbpaaRows
import Derived.Test.YteanpgkonhdbpaaBase
import Derived.WalkKit
import Derived.WalkSpells
import Derived.WalkLawsBesides
namespace Go.Proofs.Yteanpgkonhdbpaa
open Go.RowKit

def w32 (s : Nat) : Value := .int .u32 (s : Int)
def diffN (a b : Nat) : Nat := a &&& (4294967295 - b)
def anyE (s l : Nat) : Int := if l = 0 then 280 else if s &&& l = 0 then 270 else 0
def everyE (s l : Nat) : Int := if l = 0 then 280 else if s &&& l = l then 0 else 270
def everyN (s l : Nat) : Nat := if s &&& l = l then l else 0
def flagE (l : Nat) : Int := if l = 0 then 280 else 0

theorem beq0 (l : Nat) : ((l : Int) == 0) = decide (l = 0) := by
  rw [Bool.eq_iff_iff]; simp
theorem diffN_zero (s : Nat) (hs : s < 4294967296) : diffN s 0 = s := by
  unfold diffN
  have := Nat.and_two_pow_sub_one_eq_mod s 32
  simp only [Nat.reducePow, Nat.reduceSub] at this
  rw [show 4294967295 - 0 = 4294967295 from rfl, this]
  omega
theorem diffN_lt (s l : Nat) (hs : s < 4294967296) : diffN s l < 4294967296 := Nat.lt_of_le_of_lt Nat.and_le_left hs

theorem anyE_beq (s l : Nat) : (anyE s l == 0) = (decide (l ≠ 0) && decide (s &&& l ≠ 0)) := by
  unfold anyE
  split
  · simp_all
  · split <;> simp_all
theorem diffN_testBit (s l i : Nat) (hs : s < 4294967296) (hl : l < 4294967296) : (diffN s l).testBit i = (s.testBit i && !l.testBit i) := by
  unfold diffN
  have h := Nat.testBit_two_pow_sub_succ (n := 32) (x := l) hl i
  rw [Nat.testBit_and, show 4294967295 - l = 2 ^ 32 - (l + 1) by omega, h]
  by_cases hi : i < 32
  · simp [hi]
  · have := Nat.testBit_lt_two_pow (x := s) (i := i) (Nat.lt_of_lt_of_le (show s < 2 ^ 32 from hs) (Nat.pow_le_pow_right (by decide) (by omega)))
    simp [this]
theorem diffN_and (s l : Nat) (hs : s < 4294967296) (hl : l < 4294967296) : diffN s (s &&& l) = diffN s l := by
  apply Nat.eq_of_testBit_eq
  intro i
  rw [diffN_testBit _ _ _ hs (Nat.lt_of_le_of_lt Nat.and_le_left hs), diffN_testBit _ _ _ hs hl, Nat.testBit_and]
  cases s.testBit i <;> simp
theorem diffN_of_and (s l : Nat) (hs : s < 4294967296) (hl : l < 4294967296) (h : s &&& l = 0) : diffN s l = s := by
  rw [← diffN_and s l hs hl, h, diffN_zero s hs]

end Go.Proofs.Yteanpgkonhdbpaa
