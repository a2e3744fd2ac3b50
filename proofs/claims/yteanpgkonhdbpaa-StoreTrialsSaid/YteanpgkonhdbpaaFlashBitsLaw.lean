/- What a call does to the bits of a flash device: cleared alone, unless a sector is erased; then set alone. In plain lists. -/
import Derived.Test.YteanpgkonhdbpaaFlashOk
namespace Go.Proofs.Yteanpgkonhdbpaa
open Go.RowKit

theorem and_or_self' (a b : Nat) : (a &&& b) ||| a = a := by
  apply Nat.eq_of_testBit_eq
  intro i
  rw [Nat.testBit_or, Nat.testBit_and]
  cases a.testBit i <;> simp
theorem or_blank (a : Nat) (h : a < 4294967296) : a ||| 4294967295 = 4294967295 := by
  apply Nat.eq_of_testBit_eq
  intro i
  rw [Nat.testBit_or]
  rcases Nat.lt_or_ge i 32 with hi | hi
  · have : (4294967295 : Nat).testBit i = true := by
      rw [show (4294967295 : Nat) = 2 ^ 32 - 1 by decide, Nat.testBit_two_pow_sub_one]
      simpa using hi
    rw [this, Bool.or_true]
  · rw [Nat.testBit_lt_two_pow (Nat.lt_of_lt_of_le (show a < 2 ^ 32 by simpa using h) (Nat.pow_le_pow_right (n := 2) (by decide) hi)), Bool.false_or]
theorem or_or_self' (a b : Nat) : a ||| (a ||| b) = a ||| b := by
  apply Nat.eq_of_testBit_eq
  intro i
  simp only [Nat.testBit_or]
  cases a.testBit i <;> simp
theorem getD_set_self' (l : List Nat) (i x : Nat) (h : i < l.length) : (l.set i x).getD i 0 = x := by simp [h]
theorem getD_set_ne' (l : List Nat) (i j x : Nat) (h : i ≠ j) : (l.set i x).getD j 0 = l.getD j 0 := by
  simp [List.getD_eq_getElem?_getD, List.getElem?_set_ne h]
theorem eraseBits_in (t : Bool) (sd : Nat) (l : List Nat) (b : Nat) (j : Nat) : ∀ k, j < k → b + k ≤ l.length → (eraseBits t sd l b k).getD (b + j) 0 = if t then l.getD (b + j) 0 ||| mSeq (max sd 1) j else 4294967295
  | 0, h, _ => absurd h (by omega)
  | k + 1, h, hl => by
    rw [eraseBits]
    rcases Nat.lt_or_ge j k with hj | hj
    · rw [getD_set_ne' _ _ _ _ (by omega)]
      exact eraseBits_in t sd l b j k hj (by omega)
    · obtain rfl : j = k := by omega
      rw [getD_set_self' _ _ _ (by rw [eraseBits_len]; omega)]
theorem sector_apart {σ τ k nw : Nat} (hne : σ ≠ τ) (hk : k < nw) : τ * nw + nw ≤ σ * nw + k ∨ σ * nw + k < τ * nw := by
  rcases Nat.lt_or_ge σ τ with h | h
  · right
    have := Nat.mul_le_mul_right nw (show σ + 1 ≤ τ by omega)
    rw [Nat.add_mul, Nat.one_mul] at this
    omega
  · left
    have := Nat.mul_le_mul_right nw (show τ + 1 ≤ σ by omega)
    rw [Nat.add_mul, Nat.one_mul] at this
    omega
theorem erase_bits (d : Dev) (ho : d.Ok) (s : Int) (σ k : Nat) (_hσ : σ < d.ns) (hk : k < d.nw) :
    d.bits.getD (σ * d.nw + k) 0 ||| (eraseS d s).1.bits.getD (σ * d.nw + k) 0 = (eraseS d s).1.bits.getD (σ * d.nw + k) 0 ∧ ((σ : Int) ≠ s → (eraseS d s).1.bits.getD (σ * d.nw + k) 0 = d.bits.getD (σ * d.nw + k) 0) ∧ (eraseS d s).1.bits.length = d.bits.length := by
  by_cases hn : d.on = false ∨ ¬ (0 ≤ s ∧ s < d.ns) ∨ d.lim ≤ d.worn.getD s.toNat 0
  · have e : (eraseS d s).1 = d := by
      unfold eraseS
      split
      · rfl
      · split
        · rfl
        · split
          · rfl
          · rename_i a1 a2 a3
            exact absurd hn (by rintro (e | e | e); exact a1 e; exact a2 e; exact a3 e)
    rw [e]
    exact ⟨by simp, fun _ => rfl, rfl⟩
  · have h1 : d.on = true := by cases hon : d.on <;> simp_all
    have h2 : 0 ≤ s ∧ s < d.ns := Classical.byContradiction fun e => hn (.inr (.inl e))
    have h3 : d.worn.getD s.toNat 0 < d.lim := Nat.lt_of_not_le fun e => hn (.inr (.inr e))
    obtain ⟨τ, rfl⟩ : ∃ τ : Nat, s = (τ : Int) := ⟨s.toNat, by omega⟩
    rw [eraseS_yes d τ h1 (by omega) h3]
    have hhi := sect_hi d ho τ (by omega)
    show _ ||| (eraseBits _ _ _ _ _).getD _ _ = (eraseBits _ _ _ _ _).getD _ _ ∧ (_ → (eraseBits _ _ _ _ _).getD _ _ = _) ∧ (eraseBits _ _ _ _ _).length = _
    refine ⟨?_, fun hne => ?_, eraseBits_len _ _ _ _ _⟩
    · by_cases he : σ = τ
      · subst he
        rw [eraseBits_in _ _ _ _ _ _ hk hhi]
        split
        · exact or_or_self' _ _
        · exact or_blank _ (bit_lt d ho _)
      · rw [eraseBits_at _ _ _ _ _ _ (sector_apart he hk)]
        simp
    · rw [eraseBits_at _ _ _ _ _ _ (sector_apart (fun e => hne (by rw [e])) hk)]
theorem prog_bits (d : Dev) (ho : d.Ok) (s q : Int) (v i : Nat) : (progS d s q v).1.bits.getD i 0 ||| d.bits.getD i 0 = d.bits.getD i 0 ∧ (progS d s q v).1.bits.length = d.bits.length := by
  unfold progS
  split
  · exact ⟨by simp, rfl⟩
  · split
    · exact ⟨by simp, rfl⟩
    · rename_i hi
      dsimp only
      split
      · exact ⟨by simp, rfl⟩
      · rename_i hor
        have hor' : v ||| d.bits.getD (atS d s q) 0 = d.bits.getD (atS d s q) 0 := Classical.byContradiction hor
        have hlt : atS d s q < d.bits.length := by
          rcases is_cases d ho s q with ⟨_, _, h⟩ | ⟨h, _⟩
          · exact h
          · exact absurd h hi
        split
        all_goals
          refine ⟨?_, by simp⟩
          by_cases he : atS d s q = i
          · subst he
            rw [getD_set_self' _ _ _ hlt]
            first | exact and_or_self' _ _ | exact hor'
          · rw [getD_set_ne' _ _ _ _ he]
            simp
theorem doS_bits (d : Dev) (ho : d.Ok) (o : FOp) (σ k : Nat) (hσ : σ < d.ns) (hk : k < d.nw) : (doS d o).bits.length = d.bits.length ∧
    (kindM o.kind = 4 → d.bits.getD (σ * d.nw + k) 0 ||| (doS d o).bits.getD (σ * d.nw + k) 0 = (doS d o).bits.getD (σ * d.nw + k) 0 ∧ ((σ : Int) ≠ o.sector → (doS d o).bits.getD (σ * d.nw + k) 0 = d.bits.getD (σ * d.nw + k) 0)) ∧
    (kindM o.kind ≠ 4 → (doS d o).bits.getD (σ * d.nw + k) 0 ||| d.bits.getD (σ * d.nw + k) 0 = d.bits.getD (σ * d.nw + k) 0) := by
  unfold doS
  split
  · rename_i h
    obtain ⟨h1, h2, h3⟩ := erase_bits d ho o.sector σ k hσ hk
    exact ⟨h3, fun _ => ⟨h1, h2⟩, fun hn => absurd h hn⟩
  · rename_i h
    split
    · exact ⟨rfl, fun e => absurd e h, fun _ => by show d.bits.getD _ _ ||| _ = _; simp⟩
    · split
      · exact ⟨rfl, fun e => absurd e h, fun _ => by show d.bits.getD _ _ ||| _ = _; simp⟩
      · split
        · exact ⟨rfl, fun e => absurd e h, fun _ => by show d.bits.getD _ _ ||| _ = _; simp⟩
        · obtain ⟨h1, h2⟩ := prog_bits d ho o.sector o.word o.w (σ * d.nw + k)
          exact ⟨h2, fun e => absurd e h, fun _ => h1⟩

end Go.Proofs.Yteanpgkonhdbpaa
