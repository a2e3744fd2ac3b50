/- Words of bits in eight figures of the base 16: plain facts. -/
import Derived.Test.YtoepkhkaifgddaaDec
namespace Go.Proofs.Ytoepkhkaifgddaa
open Go.RowKit

/-- A figure of the base 16. -/
def fig (d : Nat) : UInt8 := if d % 16 < 10 then UInt8.ofNat (48 + d % 16) else UInt8.ofNat (87 + d % 16)
/-- The last k figures of a word. -/
def hexN (x : Nat) : Nat → List UInt8
  | 0 => []
  | k + 1 => hexN (x / 16) k ++ [fig x]
def hexL (x : Nat) : List UInt8 := hexN x 8
def figs : ByteArray := { data := #[48, 49, 50, 51, 52, 53, 54, 55, 56, 57, 97, 98, 99, 100, 101, 102] }
theorem figs_at : ∀ d, (h : d < 16) → figs[d]'h = fig d := by
  intro d h
  have : ∀ d : Fin 16, figs[d.1]'d.2 = fig d.1 := by decide
  exact this ⟨d, h⟩
theorem hexN_len (k : Nat) : ∀ x, (hexN x k).length = k := by
  induction k with
  | zero => intro x; rfl
  | succ k ih => intro x; rw [hexN, List.length_append, ih]; rfl
/-- Figure j from the end. -/
theorem hexN_at (k : Nat) : ∀ x j, j < k → (hexN x k)[k - 1 - j]? = some (fig (x / 16 ^ j)) := by
  induction k with
  | zero => intro x j h; omega
  | succ k ih =>
    intro x j h
    rw [hexN]
    cases j with
    | zero =>
      rw [List.getElem?_append_right (by rw [hexN_len]; omega), hexN_len]
      simp
    | succ j =>
      rw [List.getElem?_append_left (by rw [hexN_len]; omega), show k + 1 - 1 - (j + 1) = k - 1 - j by omega, ih (x / 16) j (by omega), Nat.div_div_eq_div_mul, ← Nat.pow_succ']
theorem run_index_figs {P : Program} {t : TypeId} (ht : P.underlying t = some .string) (k : IntKind) (d : Nat) (hd : d < 16) (w : World) :
    (Instr.index t (.string { data := #[48, 49, 50, 51, 52, 53, 54, 55, 56, 57, 97, 98, 99, 100, 101, 102] }) (.int k (d : Int))).run P w = .ok (.int .u8 ((fig d).toNat : Int)) w := by
  have h := run_index_string (P := P) w t figs k (d : Int) ht
  rw [dif_pos ⟨by omega, by have : figs.size = 16 := rfl; omega⟩] at h
  have e : figs[((d : Nat) : Int).toNat]'(by have : figs.size = 16 := rfl; omega) = fig d := figs_at d hd
  rw [e] at h
  exact h
theorem and_15 (x k : Nat) (hx : x < 4294967296) : bits .and .u32 ((x : Int) / 2 ^ (4 * k)) 15 = ((x / 16 ^ k % 16 : Nat) : Int) := by
  have e : ((x : Int) / 2 ^ (4 * k)) = ((x / 16 ^ k : Nat) : Int) := by
    have h2 : (2 : Int) ^ (4 * k) = ((16 ^ k : Nat) : Int) := by
      rw [show (16 : Nat) = 2 ^ 4 from rfl, ← Nat.pow_mul]
      norm_cast
    rw [h2, Int.natCast_ediv]
  have h := u32_and_nat (x / 16 ^ k) 15 (Nat.lt_of_le_of_lt (Nat.div_le_self _ _) hx) (by decide)
  rw [e, show ((15 : Int)) = ((15 : Nat) : Int) from rfl, h, nat_mask4]
theorem fig_mod (d : Nat) : fig (d % 16) = fig d := by simp [fig]
/-- The figures from the end on, k of them, are in place. -/
def Placed (x : Nat) (l : List UInt8) (k : Nat) : Prop := l.length = 8 ∧ ∀ j, j < k → l[7 - j]? = some (fig (x / 16 ^ j))
theorem Placed.step {x k : Nat} {l : List UInt8} (h : Placed x l k) (hk : k < 8) : Placed x (l.set (7 - k) (fig (x / 16 ^ k % 16))) (k + 1) := by
  refine ⟨by simp [h.1], fun j hj => ?_⟩
  rw [List.getElem?_set]
  by_cases e : 7 - k = 7 - j
  · obtain rfl : j = k := by omega
    rw [if_pos rfl, if_pos (by rw [h.1]; omega), fig_mod]
  · rw [if_neg e, h.2 j (by omega)]
theorem Placed.fin {x : Nat} {l : List UInt8} (h : Placed x l 8) : l = hexL x := by
  apply List.ext_getElem?
  intro i
  by_cases hi : i < 8
  · have h1 := h.2 (7 - i) (by omega)
    have h2 := hexN_at 8 x (7 - i) (by omega)
    rw [show 7 - (7 - i) = i by omega] at h1
    rw [show 8 - 1 - (7 - i) = i by omega] at h2
    rw [h1, hexL, h2]
  · rw [List.getElem?_eq_none (by rw [h.1]; omega), List.getElem?_eq_none (by rw [hexL, hexN_len]; omega)]
theorem hexN_cons (k : Nat) : ∀ x, hexN x (k + 1) = fig (x / 16 ^ k) :: hexN x k := by
  induction k with
  | zero => intro x; simp [hexN]
  | succ k ih =>
    intro x
    rw [hexN, ih (x / 16), hexN, Nat.div_div_eq_div_mul, ← Nat.pow_succ']
    rfl
theorem fig_cast (m : Nat) (h : m % 16 < figs.size) : ((figs[m % 16]'h).toNat : Int) = ((fig m).toNat : Int) := by
  have e : figs[m % 16]'h = fig (m % 16) := figs_at _ (Nat.mod_lt _ (by decide))
  rw [fig_mod] at e
  exact congrArg (fun b : UInt8 => (b.toNat : Int)) e
end Go.Proofs.Ytoepkhkaifgddaa
