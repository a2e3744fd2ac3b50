/- The lines of a text, cut off one by one; no program in sight. -/
import Derived.Test.YtoepkhkaifgddaaDigPlain
namespace Go.Proofs.Ytoepkhkaifgddaa

theorem endAt_spec (p : UInt8 → Bool) (s : ByteArray) : ∀ n a, a ≤ s.size → s.size - a ≤ n →
    a ≤ endAt p s n a ∧ endAt p s n a ≤ s.size ∧ (endAt p s n a = s.size ∨ ∃ h : endAt p s n a < s.size, p (s[endAt p s n a]'h) = true) ∧ ∀ j, a ≤ j → j < endAt p s n a → ∀ h : j < s.size, p (s[j]'h) = false := by
  intro n
  induction n with
  | zero =>
    intro a ha hn
    rw [endAt]
    exact ⟨Nat.le_refl _, ha, .inl (by omega), fun j h1 h2 => by omega⟩
  | succ n ih =>
    intro a ha hn
    rw [endAt]
    by_cases h : a < s.size
    · rw [dif_pos h]
      by_cases hp : p s[a] = true
      · rw [if_pos hp]
        exact ⟨Nat.le_refl _, ha, .inr ⟨h, hp⟩, fun j h1 h2 => by omega⟩
      · rw [if_neg hp]
        obtain ⟨h1, h2, h3, h4⟩ := ih (a + 1) (by omega) (by omega)
        refine ⟨by omega, h2, h3, fun j hj1 hj2 hj => ?_⟩
        by_cases e : j = a
        · subst e; simpa using hp
        · exact h4 j (by omega) hj2 hj
    · rw [dif_neg h]
      exact ⟨Nat.le_refl _, ha, .inl (by omega), fun j h1 h2 => by omega⟩
theorem endOf_spec (p : UInt8 → Bool) (s : ByteArray) (a : Nat) (ha : a ≤ s.size) :
    a ≤ endOf p s a ∧ endOf p s a ≤ s.size ∧ (endOf p s a = s.size ∨ ∃ h : endOf p s a < s.size, p (s[endOf p s a]'h) = true) ∧ ∀ j, a ≤ j → j < endOf p s a → ∀ h : j < s.size, p (s[j]'h) = false :=
  endAt_spec p s s.size a ha (by omega)
theorem at_extract {s : ByteArray} {a b j : Nat} (h : j < (s.extract a b).size) (h2 : a + j < s.size) : (s.extract a b)[j] = s[a + j] := by
  rw [ByteArray.getElem_extract]
theorem size_ext {s : ByteArray} {a b : Nat} (hb : b ≤ s.size) : (s.extract a b).size = b - a := by rw [ByteArray.size_extract]; omega
theorem empty_ext {s : ByteArray} {a b : Nat} (h : b ≤ a) : s.extract a b = ByteArray.empty := by
  apply ByteArray.ext
  apply Array.eq_empty_of_size_eq_zero
  have := ByteArray.size_extract (a := s) (b := a) (e := b)
  show (s.extract a b).size = 0
  omega
/-- Within a part of a text, as within the text. -/
theorem endOf_sub (p : UInt8 → Bool) (s : ByteArray) (a b : Nat) (hab : a ≤ b) (hb : b ≤ s.size) : endOf p (s.extract a b) 0 = min (endOf p s a) b - a := by
  obtain ⟨h1, h2, h3, h4⟩ := endOf_spec p s a (by omega)
  have hz := size_ext (s := s) (a := a) hb
  refine endOf_eq (Nat.zero_le _) (by omega) ?_ (fun j _ hj => ?_)
  · by_cases h : endOf p s a < b
    · right
      have e : a + (min (endOf p s a) b - a) = endOf p s a := by omega
      refine ⟨by omega, ?_⟩
      rw [at_extract (by omega) (by omega)]
      rcases h3 with h5 | ⟨h5, h6⟩
      · omega
      · simp only [e]; exact h6
    · left; omega
  · rw [at_extract (by omega) (by omega)]
    exact h4 (a + j) (by omega) (by omega) _
def cutNl (t : ByteArray) : ByteArray := if endOf isNl t 0 < t.size then t.extract 0 (endOf isNl t 0) else t
def restNl (t : ByteArray) : ByteArray := if endOf isNl t 0 < t.size then t.extract (endOf isNl t 0 + 1) t.size else ByteArray.empty
def cutHash (t : ByteArray) : ByteArray := if endOf isHash t 0 < t.size then t.extract 0 (endOf isHash t 0) else t
def linesS : Nat → ByteArray → List ByteArray
  | 0, _ => []
  | n + 1, t => if t.size = 0 then [] else cutHash (cutNl t) :: linesS n (restNl t)
theorem cutNl_eq (s : ByteArray) (a : Nat) (ha : a ≤ s.size) : cutNl (s.extract a s.size) = s.extract a (endOf isNl s a) := by
  obtain ⟨h1, h2, h3, h4⟩ := endOf_spec isNl s a ha
  have e := endOf_sub isNl s a s.size ha (Nat.le_refl _)
  have hz := size_ext (s := s) (a := a) (Nat.le_refl _)
  unfold cutNl
  rw [e, hz]
  split
  · rw [ByteArray.extract_extract]
    congr 1
    omega
  · congr 1
    omega
theorem restNl_eq (s : ByteArray) (a : Nat) (ha : a ≤ s.size) : restNl (s.extract a s.size) = s.extract (endOf isNl s a + 1) s.size := by
  obtain ⟨h1, h2, h3, h4⟩ := endOf_spec isNl s a ha
  have e := endOf_sub isNl s a s.size ha (Nat.le_refl _)
  have hz := size_ext (s := s) (a := a) (Nat.le_refl _)
  unfold restNl
  rw [e, hz]
  split
  · rw [ByteArray.extract_extract]
    congr 1 <;> omega
  · rw [empty_ext (by omega)]
theorem cutHash_eq (s : ByteArray) (a b : Nat) (hab : a ≤ b) (hb : b ≤ s.size) : cutHash (s.extract a b) = s.extract a (min (endOf isHash s a) b) := by
  obtain ⟨h1, h2, h3, h4⟩ := endOf_spec isHash s a (by omega)
  have e := endOf_sub isHash s a b hab hb
  have hz := size_ext (s := s) (a := a) hb
  unfold cutHash
  rw [e, hz]
  split
  · rw [ByteArray.extract_extract]
    congr 1
    omega
  · congr 1
    omega
theorem linesS_eq (s : ByteArray) : ∀ n a, linesS n (s.extract a s.size) = linesK s n a
  | 0, _ => rfl
  | n + 1, a => by
    rw [linesS, linesK]
    by_cases h : a < s.size
    · have hz := size_ext (s := s) (a := a) (Nat.le_refl _)
      obtain ⟨h1, h2, h3, h4⟩ := endOf_spec isNl s a (by omega)
      rw [if_neg (by omega), if_pos h, cutNl_eq s a (by omega), restNl_eq s a (by omega), cutHash_eq s a _ h1 h2, linesS_eq s n]
    · rw [if_neg h, if_pos (by rw [ByteArray.size_extract]; omega)]
theorem linesS_all (s : ByteArray) : linesS s.size s = linesOf s := by
  have := linesS_eq s s.size 0
  rw [ByteArray.extract_zero_size] at this
  rw [this]; rfl
theorem restNl_lt (t : ByteArray) (h : 0 < t.size) : (restNl t).size < t.size := by
  unfold restNl
  split
  · rw [ByteArray.size_extract]; omega
  · exact h
theorem linesS_fuel : ∀ n m t, t.size ≤ n → t.size ≤ m → linesS n t = linesS m t
  | 0, m, t, hn, _ => by
    cases m with
    | zero => rfl
    | succ m => rw [linesS, linesS, if_pos (by omega)]
  | n + 1, m, t, hn, hm => by
    cases m with
    | zero => rw [linesS, linesS, if_pos (by omega)]
    | succ m =>
      rw [linesS, linesS]
      by_cases h : t.size = 0
      · rw [if_pos h, if_pos h]
      · rw [if_neg h, if_neg h]
        have := restNl_lt t (by omega)
        rw [linesS_fuel n m (restNl t) (by omega) (by omega)]
/-- The lines of a text. -/
def linesT (t : ByteArray) : List ByteArray := linesS t.size t
theorem linesT_nil {t : ByteArray} (h : t.size = 0) : linesT t = [] := by unfold linesT; rw [h, linesS]
theorem linesT_cons {t : ByteArray} (h : 0 < t.size) : linesT t = cutHash (cutNl t) :: linesT (restNl t) := by
  unfold linesT
  obtain ⟨k, hk⟩ : ∃ k, t.size = k + 1 := ⟨t.size - 1, by omega⟩
  rw [hk, linesS, if_neg (by omega)]
  have := restNl_lt t h
  rw [linesS_fuel k _ (restNl t) (by omega) (Nat.le_refl _)]
end Go.Proofs.Ytoepkhkaifgddaa
