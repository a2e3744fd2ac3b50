/- What the reference's functions on rows of numbers (In, Of) answer, for every row and set; each walks its Go text. No condition beyond the row's length being a Go length. What the reference's function List answers, for every set. No condition. What the methods of flags answer and leave, for any set of flags and any argument: each walks its Go text; no condition. -/
import Derived.Test.YteanpgkonhdbpaaRows
import Derived.Test.YteanpgkonhdbpaaBase
import Derived.WalkKit
import Derived.WalkSpells
import Derived.WalkLawsBesides
namespace Go.Proofs.Yteanpgkonhdbpaa
open Go.RowKit

theorem slice_int : SliceOf Try.prog 55 3 1 8 := ⟨Try.underlying55, by kernel_rfl, by decide⟩

abbrev ints (xs : List Int) : List Value := xs.map (Value.int .i64)
theorem ints_at {xs : List Int} {k : Nat} {u : Value} (h : (ints xs)[k]? = some u) (hk : k < xs.length) : u = .int .i64 xs[k] := by
  rw [List.getElem?_map, List.getElem?_eq_getElem hk] at h
  simpa using h.symm
theorem ints_one (xs : List Int) : ∀ u ∈ ints xs, u.oneCell' = true := ints_oneCell .i64 xs

/-- What a call that answers a new row of numbers leaves. -/
def RetInts (w : World) (xs : List Int) (e : Ending) (w' : World) : Prop :=
  ∃ A c, e = .returned (.slice A xs.length c) ∧ w'.ownsRow w.heap.size 3 1 (.slice A xs.length c) xs.length (ints xs) ∧ Keep [] w w'
def OwnInts (w w' : World) (v : Value) (xs : List Int) : Prop :=
  w'.ownsRow w.heap.size 3 1 v xs.length (ints xs) ∧ Keep [] w w'
theorem OwnInts.nil (w : World) : OwnInts w w (.slice none 0 0) [] := ⟨World.ownsRow_nil _ _ _ _, Keep.refl _ _⟩
theorem OwnInts.ret {w w' : World} {v : Value} {xs : List Int} (h : OwnInts w w' v xs) : RetInts w xs (.returned v) w' := by
  obtain ⟨A, c, rfl⟩ := own_shape h.1
  exact ⟨A, c, rfl, h.1, h.2⟩
theorem OwnInts.app {w wr w' : World} {v v' : Value} {xs : List Int} {x : Int} (h : OwnInts w wr v xs) (h1 : w'.ownsRow w.heap.size 3 1 v' (xs.length + 1) (ints xs ++ [.int .i64 x])) (h2 : Keep v.ownBlock.toList wr w') : OwnInts w w' v' (xs ++ [x]) :=
  ⟨by simpa [ints] using h1, h.2.trans h2 (fun g hg hlt => by
    have := h.1.lt g (by simpa using hg)
    omega)⟩

/-- The set of the numbers below k that are in a row. -/
def ofN (l : List Int) : Nat → Nat
  | 0 => 0
  | k + 1 => if (k : Int) ∈ l then ofN l k + 2 ^ k else ofN l k
theorem ofN_lt (l : List Int) : ∀ k, ofN l k < 2 ^ k
  | 0 => by simp [ofN]
  | k + 1 => by
    have := ofN_lt l k
    unfold ofN
    split <;> omega
theorem ofN_step (l : List Int) (k : Nat) (hk : k < 32) : ((ofN l k : Int) + 2 ^ k % 4294967296) % 4294967296 = ((ofN l k + 2 ^ k : Nat) : Int) := by
  have h1 := ofN_lt l k
  have h2 : 2 ^ k ≤ 2 ^ 31 := Nat.pow_le_pow_right (by decide) (by omega)
  have e : ((2 : Int) ^ k) = ((2 ^ k : Nat) : Int) := by norm_cast
  rw [e]
  omega
theorem ofN_testBit (l : List Int) : ∀ k n, (ofN l k).testBit n = (decide (n < k) && decide ((n : Int) ∈ l))
  | 0, n => by simp [ofN]
  | k + 1, n => by
    have ih := ofN_testBit l k n
    have hlt := ofN_lt l k
    unfold ofN
    rcases Nat.lt_trichotomy n k with h | h | h
    · have h1 : n < k + 1 := by omega
      split
      · rw [Nat.add_comm, Nat.testBit_two_pow_add_gt h, ih]; simp [h, h1]
      · rw [ih]; simp [h, h1]
    · subst h
      split
      · rename_i hm
        rw [Nat.add_comm, Nat.testBit_two_pow_add_eq, ih]; simp [hm]
      · rename_i hm
        rw [ih]; simp [hm]
    · have h1 : ¬ n < k + 1 := by omega
      have h2 : ∀ x, x < 2 ^ (k + 1) → x.testBit n = false := fun x hx => Nat.testBit_lt_two_pow (Nat.lt_of_lt_of_le hx (Nat.pow_le_pow_right (by decide) (by omega)))
      split
      · rw [h2 _ (by omega)]; simp [h1]
      · rw [h2 _ (by omega)]; simp [h1]

end Go.Proofs.Yteanpgkonhdbpaa

namespace Go.Proofs.Yteanpgkonhdbpaa
open Go.RowKit

/-- The numbers below k that are in the set s, rising. -/
def listN (s : Nat) (k : Nat) : List Int := ((List.range k).filter (fun n => s.testBit n)).map Int.ofNat
theorem listN_le (s k : Nat) : (listN s k).length ≤ k := by
  unfold listN
  have := List.length_filter_le (fun n => s.testBit n) (List.range k)
  simpa using this
theorem listN_zero (s : Nat) : listN s 0 = [] := rfl
theorem listN_succ (s k : Nat) : listN s (k + 1) = if s.testBit k then listN s k ++ [(k : Int)] else listN s k := by
  unfold listN
  rw [List.range_succ, List.filter_append, List.map_append]
  by_cases h : s.testBit k <;> simp [h]
theorem testBit_tmod (s k : Nat) : ((((s : Int) / 2 ^ k).tmod 2 == 1) = true) ↔ s.testBit k = true := by
  have e : ((s : Int) / 2 ^ k).tmod 2 = ((s / 2 ^ k % 2 : Nat) : Int) := by
    rw [Int.tmod_eq_emod_of_nonneg (Int.ediv_nonneg (by omega) (by have : (0 : Int) < 2 ^ k := Int.pow_pos (by decide); omega))]
    norm_cast
  rw [e, Nat.testBit_eq_decide_div_mod_eq]
  simp only [beq_iff_eq, decide_eq_true_eq]
  constructor <;> intro h <;> omega
theorem testBit_tmod' (s k : Nat) : ((((s : Int) / 2 ^ k).tmod 2 == 1) = false) ↔ s.testBit k = false := by
  rw [← Bool.not_eq_true, ← Bool.not_eq_true, testBit_tmod]

end Go.Proofs.Yteanpgkonhdbpaa

namespace Go.Proofs.Yteanpgkonhdbpaa
open Go.RowKit

def w32 (s : Nat) : Value := .int .u32 (s : Int)
def diffN (a b : Nat) : Nat := a &&& (4294967295 - b)
def anyE (s l : Nat) : Int := if l = 0 then 280 else if s &&& l = 0 then 270 else 0
def everyE (s l : Nat) : Int := if l = 0 then 280 else if s &&& l = l then 0 else 270
def everyN (s l : Nat) : Nat := if s &&& l = l then l else 0
def flagE (l : Nat) : Int := if l = 0 then 280 else 0

theorem beq0 (l : Nat) : ((l : Int) == 0) = decide (l = 0) := by
  rw [Bool.eq_iff_iff]; simp
theorem diffN_zero (s : Nat) (hs : s < 4294967296) : diffN s 0 = s := by
  unfold diffN
  have := Nat.and_two_pow_sub_one_eq_mod s 32
  simp only [Nat.reducePow, Nat.reduceSub] at this
  rw [show 4294967295 - 0 = 4294967295 from rfl, this]
  omega
theorem diffN_lt (s l : Nat) (hs : s < 4294967296) : diffN s l < 4294967296 := Nat.lt_of_le_of_lt Nat.and_le_left hs

theorem anyE_beq (s l : Nat) : (anyE s l == 0) = (decide (l ≠ 0) && decide (s &&& l ≠ 0)) := by
  unfold anyE
  split
  · simp_all
  · split <;> simp_all
theorem diffN_testBit (s l i : Nat) (hs : s < 4294967296) (hl : l < 4294967296) : (diffN s l).testBit i = (s.testBit i && !l.testBit i) := by
  unfold diffN
  have h := Nat.testBit_two_pow_sub_succ (n := 32) (x := l) hl i
  rw [Nat.testBit_and, show 4294967295 - l = 2 ^ 32 - (l + 1) by omega, h]
  by_cases hi : i < 32
  · simp [hi]
  · have := Nat.testBit_lt_two_pow (x := s) (i := i) (Nat.lt_of_lt_of_le (show s < 2 ^ 32 from hs) (Nat.pow_le_pow_right (by decide) (by omega)))
    simp [this]
theorem diffN_and (s l : Nat) (hs : s < 4294967296) (hl : l < 4294967296) : diffN s (s &&& l) = diffN s l := by
  apply Nat.eq_of_testBit_eq
  intro i
  rw [diffN_testBit _ _ _ hs (Nat.lt_of_le_of_lt Nat.and_le_left hs), diffN_testBit _ _ _ hs hl, Nat.testBit_and]
  cases s.testBit i <;> simp
theorem diffN_of_and (s l : Nat) (hs : s < 4294967296) (hl : l < 4294967296) (h : s &&& l = 0) : diffN s l = s := by
  rw [← diffN_and s l hs hl, h, diffN_zero s hs]

end Go.Proofs.Yteanpgkonhdbpaa
