/- Words of bits in eight figures of the base 16: plain facts. Reading eight figures of the base 16: plain facts: the code's reader and the reference's answer one and the same. -/
import Derived.Test.YtoepkhkaifgddaaDecRead
namespace Go.Proofs.Ytoepkhkaifgddaa
open Go.RowKit

/-- A figure of the base 16. -/
def fig (d : Nat) : UInt8 := if d % 16 < 10 then UInt8.ofNat (48 + d % 16) else UInt8.ofNat (87 + d % 16)
/-- The last k figures of a word. -/
def hexN (x : Nat) : Nat → List UInt8
  | 0 => []
  | k + 1 => hexN (x / 16) k ++ [fig x]
def hexL (x : Nat) : List UInt8 := hexN x 8
def figs : ByteArray := { data := #[48, 49, 50, 51, 52, 53, 54, 55, 56, 57, 97, 98, 99, 100, 101, 102] }
theorem figs_at : ∀ d, (h : d < 16) → figs[d]'h = fig d := by
  intro d h
  have : ∀ d : Fin 16, figs[d.1]'d.2 = fig d.1 := by decide
  exact this ⟨d, h⟩
theorem hexN_len (k : Nat) : ∀ x, (hexN x k).length = k := by
  induction k with
  | zero => intro x; rfl
  | succ k ih => intro x; rw [hexN, List.length_append, ih]; rfl
/-- Figure j from the end. -/
theorem hexN_at (k : Nat) : ∀ x j, j < k → (hexN x k)[k - 1 - j]? = some (fig (x / 16 ^ j)) := by
  induction k with
  | zero => intro x j h; omega
  | succ k ih =>
    intro x j h
    rw [hexN]
    cases j with
    | zero =>
      rw [List.getElem?_append_right (by rw [hexN_len]; omega), hexN_len]
      simp
    | succ j =>
      rw [List.getElem?_append_left (by rw [hexN_len]; omega), show k + 1 - 1 - (j + 1) = k - 1 - j by omega, ih (x / 16) j (by omega), Nat.div_div_eq_div_mul, ← Nat.pow_succ']
theorem run_index_figs {P : Program} {t : TypeId} (ht : P.underlying t = some .string) (k : IntKind) (d : Nat) (hd : d < 16) (w : World) :
    (Instr.index t (.string { data := #[48, 49, 50, 51, 52, 53, 54, 55, 56, 57, 97, 98, 99, 100, 101, 102] }) (.int k (d : Int))).run P w = .ok (.int .u8 ((fig d).toNat : Int)) w := by
  have h := run_index_string (P := P) w t figs k (d : Int) ht
  rw [dif_pos ⟨by omega, by have : figs.size = 16 := rfl; omega⟩] at h
  have e : figs[((d : Nat) : Int).toNat]'(by have : figs.size = 16 := rfl; omega) = fig d := figs_at d hd
  rw [e] at h
  exact h
theorem and_15 (x k : Nat) (hx : x < 4294967296) : bits .and .u32 ((x : Int) / 2 ^ (4 * k)) 15 = ((x / 16 ^ k % 16 : Nat) : Int) := by
  have e : ((x : Int) / 2 ^ (4 * k)) = ((x / 16 ^ k : Nat) : Int) := by
    have h2 : (2 : Int) ^ (4 * k) = ((16 ^ k : Nat) : Int) := by
      rw [show (16 : Nat) = 2 ^ 4 from rfl, ← Nat.pow_mul]
      norm_cast
    rw [h2, Int.natCast_ediv]
  have h := u32_and_nat (x / 16 ^ k) 15 (Nat.lt_of_le_of_lt (Nat.div_le_self _ _) hx) (by decide)
  rw [e, show ((15 : Int)) = ((15 : Nat) : Int) from rfl, h, nat_mask4]
theorem fig_mod (d : Nat) : fig (d % 16) = fig d := by simp [fig]
/-- The figures from the end on, k of them, are in place. -/
def Placed (x : Nat) (l : List UInt8) (k : Nat) : Prop := l.length = 8 ∧ ∀ j, j < k → l[7 - j]? = some (fig (x / 16 ^ j))
theorem Placed.step {x k : Nat} {l : List UInt8} (h : Placed x l k) (hk : k < 8) : Placed x (l.set (7 - k) (fig (x / 16 ^ k % 16))) (k + 1) := by
  refine ⟨by simp [h.1], fun j hj => ?_⟩
  rw [List.getElem?_set]
  by_cases e : 7 - k = 7 - j
  · obtain rfl : j = k := by omega
    rw [if_pos rfl, if_pos (by rw [h.1]; omega), fig_mod]
  · rw [if_neg e, h.2 j (by omega)]
theorem Placed.fin {x : Nat} {l : List UInt8} (h : Placed x l 8) : l = hexL x := by
  apply List.ext_getElem?
  intro i
  by_cases hi : i < 8
  · have h1 := h.2 (7 - i) (by omega)
    have h2 := hexN_at 8 x (7 - i) (by omega)
    rw [show 7 - (7 - i) = i by omega] at h1
    rw [show 8 - 1 - (7 - i) = i by omega] at h2
    rw [h1, hexL, h2]
  · rw [List.getElem?_eq_none (by rw [h.1]; omega), List.getElem?_eq_none (by rw [hexL, hexN_len]; omega)]
theorem hexN_cons (k : Nat) : ∀ x, hexN x (k + 1) = fig (x / 16 ^ k) :: hexN x k := by
  induction k with
  | zero => intro x; simp [hexN]
  | succ k ih =>
    intro x
    rw [hexN, ih (x / 16), hexN, Nat.div_div_eq_div_mul, ← Nat.pow_succ']
    rfl
theorem fig_cast (m : Nat) (h : m % 16 < figs.size) : ((figs[m % 16]'h).toNat : Int) = ((fig m).toNat : Int) := by
  have e : figs[m % 16]'h = fig (m % 16) := figs_at _ (Nat.mod_lt _ (by decide))
  rw [fig_mod] at e
  exact congrArg (fun b : UInt8 => (b.toNat : Int)) e
end Go.Proofs.Ytoepkhkaifgddaa

namespace Go.Proofs.Ytoepkhkaifgddaa
open Go.RowKit

/-- The number of a figure. -/
def figVal (b : UInt8) : Option Nat := (List.range 16).find? (fun k => fig k == b)
theorem figVal_some {b : UInt8} {k : Nat} (h : figVal b = some k) : k < 16 ∧ fig k = b := by
  unfold figVal at h
  have h1 := List.find?_some h
  have h2 := List.mem_of_find?_eq_some h
  exact ⟨List.mem_range.1 h2, by simpa using h1⟩
theorem figVal_none {b : UInt8} (h : figVal b = none) : ∀ k, k < 16 → fig k ≠ b := by
  unfold figVal at h
  rw [List.find?_eq_none] at h
  intro k hk e
  exact h k (List.mem_range.2 hk) (by simp [e])
theorem fig_inj : ∀ j k, j < 16 → k < 16 → fig j = fig k → j = k := by
  have : ∀ j k : Fin 16, fig j.1 = fig k.1 → j = k := by decide +kernel
  intro j k hj hk h
  have := this ⟨j, hj⟩ ⟨k, hk⟩ h
  exact congrArg Fin.val this
theorem figVal_fig (k : Nat) (hk : k < 16) : figVal (fig k) = some k := by
  rcases h : figVal (fig k) with _ | j
  · exact absurd rfl (figVal_none h k hk)
  · obtain ⟨h1, h2⟩ := figVal_some h
    rw [fig_inj j k h1 hk h2]
theorem figVal_is {b : UInt8} {k : Nat} (hk : k < 16) (h : fig k = b) : figVal b = some k := by rw [← h, figVal_fig k hk]

def hexStep (x : Nat) (b : UInt8) : Nat := match figVal b with | some k => (16 * x + k) % 4294967296 | none => x
def hexVal (l : List UInt8) : Nat := l.foldl hexStep 0
theorem hexVal_snoc (l : List UInt8) (b : UInt8) : hexVal (l ++ [b]) = hexStep (hexVal l) b := by unfold hexVal; rw [List.foldl_append]; rfl
def allFig (l : List UInt8) : Bool := l.all (fun b => (figVal b).isSome)
theorem allFig_snoc (l : List UInt8) (b : UInt8) : allFig (l ++ [b]) = (allFig l && (figVal b).isSome) := by simp [allFig]
theorem snoc_cases' (l : List UInt8) : l = [] ∨ ∃ m b, l = m ++ [b] := by
  rcases List.eq_nil_or_concat l with h | ⟨m, b, h⟩
  · exact .inl h
  · exact .inr ⟨m, b, by rw [h, List.concat_eq_append]⟩
theorem hexStep_some {x k : Nat} {b : UInt8} (h : figVal b = some k) : hexStep x b = (16 * x + k) % 4294967296 := by simp [hexStep, h]
theorem hexStep_none {x : Nat} {b : UInt8} (h : figVal b = none) : hexStep x b = x := by simp [hexStep, h]
theorem hexVal_lt : ∀ (n : Nat) (l : List UInt8), l.length = n → hexVal l < 4294967296
  | 0, l, h => by obtain rfl := List.eq_nil_of_length_eq_zero h; decide
  | n + 1, l, h => by
    rcases snoc_cases' l with rfl | ⟨m, b, rfl⟩
    · decide
    · have := hexVal_lt n m (by simpa using h)
      rw [hexVal_snoc]
      rcases hb : figVal b with _ | k
      · rw [hexStep_none hb]; exact this
      · rw [hexStep_some hb]; exact Nat.mod_lt _ (by decide)
theorem hexVal_pow : ∀ (n : Nat) (l : List UInt8), l.length = n → n ≤ 8 → hexVal l < 16 ^ n
  | 0, l, h, _ => by obtain rfl := List.eq_nil_of_length_eq_zero h; decide
  | n + 1, l, h, hn => by
    rcases snoc_cases' l with rfl | ⟨m, b, rfl⟩
    · simp at h
    · have h1 := hexVal_pow n m (by simpa using h) (by omega)
      have h2 : 0 < 16 ^ n := Nat.pow_pos (by decide)
      rw [hexVal_snoc, Nat.pow_succ]
      rcases hb : figVal b with _ | k
      · rw [hexStep_none hb]; omega
      · have := (figVal_some hb).1
        rw [hexStep_some hb]
        exact Nat.lt_of_le_of_lt (Nat.mod_le _ _) (by omega)
theorem hexN_fig (k : Nat) : ∀ x, allFig (hexN x k) = true := by
  induction k with
  | zero => intro x; rfl
  | succ k ih =>
    intro x
    rw [hexN, allFig_snoc, ih]
    have : fig x = fig (x % 16) := (fig_mod x).symm
    rw [this, figVal_fig _ (Nat.mod_lt _ (by decide))]
    rfl
theorem hexVal_hexN (k : Nat) (hk : k ≤ 8) : ∀ x, hexVal (hexN x k) = x % 16 ^ k := by
  induction k with
  | zero => intro x; simp [hexN, hexVal, Nat.mod_one]
  | succ k ih =>
    intro x
    have e : figVal (fig x) = some (x % 16) := by rw [← fig_mod x]; exact figVal_fig _ (Nat.mod_lt _ (by decide))
    rw [hexN, hexVal_snoc, hexStep_some e, ih (by omega), Nat.pow_succ, Nat.mul_comm (16 ^ k) 16, Nat.mod_mul]
    have h1 : x / 16 % 16 ^ k < 16 ^ k := Nat.mod_lt _ (Nat.pow_pos (by decide))
    have h2 : 16 ^ k ≤ 16 ^ 7 := Nat.pow_le_pow_right (by decide) (by omega)
    rw [Nat.mod_eq_of_lt (by omega), Nat.add_comm]
theorem hexN_hexVal : ∀ (n : Nat) (l : List UInt8), l.length = n → n ≤ 8 → allFig l = true → hexN (hexVal l) n = l
  | 0, l, h, _, _ => by obtain rfl := List.eq_nil_of_length_eq_zero h; rfl
  | n + 1, l, h, hn, hf => by
    rcases snoc_cases' l with rfl | ⟨m, b, rfl⟩
    · simp at h
    · rw [allFig_snoc, Bool.and_eq_true] at hf
      obtain ⟨k, hk⟩ := Option.isSome_iff_exists.1 hf.2
      have h1 := hexVal_pow n m (by simpa using h) (by omega)
      have h2 : 16 ^ n ≤ 16 ^ 7 := Nat.pow_le_pow_right (by decide) (by omega)
      obtain ⟨k1, k2⟩ := figVal_some hk
      rw [hexVal_snoc, hexStep_some hk, Nat.mod_eq_of_lt (by omega), hexN, show (16 * hexVal m + k) / 16 = hexVal m by omega, hexN_hexVal n m (by simpa using h) (by omega) hf.1]
      rw [← fig_mod, show (16 * hexVal m + k) % 16 = k by omega, k2]
def readWP (l : List UInt8) : Nat × Int := if l.length = 8 ∧ allFig l = true then (hexVal l, 0) else (0, 11)
def readWR (l : List UInt8) : Nat × Int := if hexL (hexVal (l.take 8)) = l then (hexVal (l.take 8), 0) else (0, 11)
theorem readWP_hex (x : Nat) (hx : x < 4294967296) : readWP (hexL x) = (x, 0) := by
  unfold readWP hexL
  rw [if_pos ⟨hexN_len 8 x, hexN_fig 8 x⟩, hexVal_hexN 8 (by decide), Nat.mod_eq_of_lt (by simpa using hx)]
theorem readW_same (l : List UInt8) : readWR l = readWP l := by
  by_cases h : l.length = 8 ∧ allFig l = true
  · have ht : l.take 8 = l := List.take_of_length_le (by omega)
    have := hexN_hexVal 8 l h.1 (by decide) h.2
    unfold readWR readWP
    rw [if_pos h, ht, hexL, if_pos this]
  · unfold readWR readWP
    rw [if_neg h, if_neg]
    intro e
    refine h ⟨by rw [← e]; exact hexN_len 8 _, by rw [← e]; exact hexN_fig 8 _⟩
end Go.Proofs.Ytoepkhkaifgddaa
