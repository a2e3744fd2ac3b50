/- Lines and pieces of a text, as plain data; no program in sight. The lines of a text, cut off one by one; no program in sight. -/
import Derived.Test.YtoepkhkaifgddaaDigIter
namespace Go.Proofs.Ytoepkhkaifgddaa

/-- The first place from a on where p holds; the text's end, if there is none (n places looked at). -/
def endAt (p : UInt8 → Bool) (s : ByteArray) : Nat → Nat → Nat
  | 0, a => a
  | n + 1, a => if h : a < s.size then (if p s[a] = true then a else endAt p s n (a + 1)) else a
def endOf (p : UInt8 → Bool) (s : ByteArray) (a : Nat) : Nat := endAt p s s.size a
theorem endAt_eq (p : UInt8 → Bool) (s : ByteArray) (i : Nat) (hi : i ≤ s.size) (hend : i = s.size ∨ ∃ h : i < s.size, p s[i] = true) :
    ∀ n a, a ≤ i → i - a ≤ n → (∀ j, a ≤ j → (h : j < i) → p (s[j]'(by omega)) = false) → endAt p s n a = i := by
  intro n
  induction n with
  | zero => intro a ha hn _; rw [endAt]; omega
  | succ n ih =>
    intro a ha hn hall
    rw [endAt]
    by_cases he : a = i
    · subst he
      rcases hend with h | ⟨h, hp⟩
      · rw [dif_neg (by omega)]
      · rw [dif_pos h, if_pos hp]
    · rw [dif_pos (by omega), if_neg (by rw [hall a (Nat.le_refl _) (by omega)]; simp)]
      exact ih (a + 1) (by omega) (by omega) (fun j h1 h2 => hall j (by omega) h2)
theorem endOf_eq {p : UInt8 → Bool} {s : ByteArray} {a i : Nat} (ha : a ≤ i) (hi : i ≤ s.size) (hend : i = s.size ∨ ∃ h : i < s.size, p s[i] = true) (hall : ∀ j, a ≤ j → (h : j < i) → p (s[j]'(by omega)) = false) : endOf p s a = i :=
  endAt_eq p s i hi hend s.size a ha (by omega) hall
theorem endAt_ge (p : UInt8 → Bool) (s : ByteArray) : ∀ n a, a ≤ endAt p s n a ∧ (a ≤ s.size → endAt p s n a ≤ s.size)
  | 0, a => ⟨Nat.le_refl _, id⟩
  | n + 1, a => by
    have := endAt_ge p s n (a + 1)
    rw [endAt]
    split
    · split
      · exact ⟨Nat.le_refl _, id⟩
      · exact ⟨by omega, fun _ => this.2 (by omega)⟩
    · exact ⟨Nat.le_refl _, id⟩
def isNl (c : UInt8) : Bool := c == 10
def isHash (c : UInt8) : Bool := c == 35
def isSp (c : UInt8) : Bool := c == 32
/-- The lines from place a on. -/
def linesK (s : ByteArray) : Nat → Nat → List ByteArray
  | 0, _ => []
  | n + 1, a => if a < s.size then s.extract a (min (endOf isHash s a) (endOf isNl s a)) :: linesK s n (endOf isNl s a + 1) else []
theorem linesK_fuel (s : ByteArray) : ∀ n a, s.size - a ≤ n → linesK s n a = linesK s (s.size - a) a := by
  have key : ∀ n m a, s.size - a ≤ n → s.size - a ≤ m → linesK s n a = linesK s m a := by
    intro n
    induction n with
    | zero =>
      intro m a hn hm
      cases m with
      | zero => rfl
      | succ m => rw [linesK, linesK, if_neg (by omega)]
    | succ n ih =>
      intro m a hn hm
      cases m with
      | zero => rw [linesK, linesK, if_neg (by omega)]
      | succ m =>
        rw [linesK, linesK]
        by_cases h : a < s.size
        · have := (endAt_ge isNl s s.size a).1
          rw [if_pos h, if_pos h, ih m (endOf isNl s a + 1) (by unfold endOf; omega) (by unfold endOf; omega)]
        · rw [if_neg h, if_neg h]
  exact fun n a h => key n _ a h (Nat.le_refl _)
def linesA (s : ByteArray) (a : Nat) : List ByteArray := linesK s (s.size - a) a
theorem linesA_end (s : ByteArray) (a : Nat) (h : s.size ≤ a) : linesA s a = [] := by
  unfold linesA
  rw [show s.size - a = 0 by omega, linesK]
theorem linesA_step (s : ByteArray) (a i c : Nat) (h : a < s.size) (hi : endOf isNl s a = i) (hc : min (endOf isHash s a) i = c) : linesA s a = s.extract a c :: linesA s (i + 1) := by
  unfold linesA
  obtain ⟨k, hk⟩ : ∃ k, s.size - a = k + 1 := ⟨s.size - a - 1, by omega⟩
  have hg := (endAt_ge isNl s s.size a).1
  rw [hk, linesK, if_pos h, hi, hc, linesK_fuel s k (i + 1) (by rw [← hi]; unfold endOf; omega)]
theorem linesA_len (s : ByteArray) : ∀ n a, s.size - a ≤ n → (linesA s a).length ≤ n := by
  intro n
  induction n with
  | zero => intro a h; rw [linesA_end s a (by omega)]; simp
  | succ n ih =>
    intro a h
    by_cases ha : a < s.size
    · rw [linesA_step s a _ _ ha rfl rfl, List.length_cons]
      have hg := (endAt_ge isNl s s.size a).1
      have := ih (endOf isNl s a + 1) (by unfold endOf; omega)
      omega
    · rw [linesA_end s a (by omega)]; simp
def linesOf (s : ByteArray) : List ByteArray := linesA s 0

theorem isBlank_sp {s : ByteArray} {i : Nat} (h : i < s.size) : isBlank s i = isSp s[i] := by unfold isBlank isSp; rw [dif_pos h]
/-- What the document has gathered ahead of place i. -/
def rpAt (s : ByteArray) (i : Nat) : List ByteArray := (scan s i).1 ++ (match (scan s i).2 with | some a => [s.extract a (endOf isSp s a)] | none => [])
theorem scan_none {s : ByteArray} : ∀ i, (scan s i).2 = none ↔ (i = 0 ∨ ∃ j, i = j + 1 ∧ isBlank s j = true)
  | 0 => by simp [scan]
  | i + 1 => by
    cases hb : isBlank s i <;> cases hf : (scan s i).2
    · rw [scan_char_none hb hf]; simp [hb]
    · rw [scan_char_some hb hf, hf]; simp [hb]
    · rw [scan_blank_none hb hf, hf]; simp [hb]
    · rw [scan_blank_some hb hf]; simp [hb]
theorem scan_run {s : ByteArray} : ∀ i a, (scan s i).2 = some a → a < i ∧ ∀ j, a ≤ j → j < i → isBlank s j = false
  | 0, a, h => by simp [scan] at h
  | i + 1, a, h => by
    cases hb : isBlank s i <;> cases hf : (scan s i).2
    · rw [scan_char_none hb hf] at h
      simp at h
      subst h
      exact ⟨by omega, fun j h1 h2 => by obtain rfl : j = i := by omega
                                         exact hb⟩
    · rw [scan_char_some hb hf, hf] at h
      rename_i b
      obtain rfl : b = a := by simpa using h
      have := scan_run i b hf
      exact ⟨by omega, fun j h1 h2 => by
        by_cases e : j = i
        · subst e; exact hb
        · exact this.2 j h1 (by omega)⟩
    · rw [scan_blank_none hb hf, hf] at h; cases h
    · rw [scan_blank_some hb hf] at h; simp at h
theorem rp_end {s : ByteArray} {a i : Nat} (h : (scan s i).2 = some a) (hi : i ≤ s.size) (hend : i = s.size ∨ ∃ h : i < s.size, isSp s[i] = true) : endOf isSp s a = i := by
  obtain ⟨h1, h2⟩ := scan_run i a h
  refine endOf_eq (by omega) hi hend (fun j hj hji => ?_)
  rw [← isBlank_sp (by omega)]
  exact h2 j hj hji
theorem rp_same {s : ByteArray} {i : Nat} (hi : i < s.size) (h : isBlank s i = true ∨ (scan s i).2.isSome = true) : rpAt s (i + 1) = rpAt s i := by
  unfold rpAt
  cases hb : isBlank s i
  · rcases h with h | h
    · rw [hb] at h; cases h
    · obtain ⟨a, ha⟩ := Option.isSome_iff_exists.1 h
      rw [scan_char_some hb ha]
  · cases hf : (scan s i).2 with
    | none => rw [scan_blank_none hb hf, hf]
    | some a =>
      have e := rp_end hf (by omega) (.inr ⟨hi, by rw [← isBlank_sp hi]; exact hb⟩)
      rw [scan_blank_some hb hf]
      simp [e]
theorem rp_new {s : ByteArray} {i : Nat} (hb : isBlank s i = false) (hf : (scan s i).2 = none) : rpAt s (i + 1) = rpAt s i ++ [s.extract i (endOf isSp s i)] := by
  unfold rpAt
  rw [scan_char_none hb hf, hf]
  simp
theorem rp_fin (s : ByteArray) : rpAt s s.size = piecesOf s := by
  unfold rpAt piecesOf
  cases hf : (scan s s.size).2 with
  | none => rw [scan_blank_none (isBlank_end s) hf]; simp
  | some a =>
    have e := rp_end hf (Nat.le_refl _) (.inl rfl)
    rw [scan_blank_some (isBlank_end s) hf]
    simp [e]
end Go.Proofs.Ytoepkhkaifgddaa

namespace Go.Proofs.Ytoepkhkaifgddaa

theorem endAt_spec (p : UInt8 → Bool) (s : ByteArray) : ∀ n a, a ≤ s.size → s.size - a ≤ n →
    a ≤ endAt p s n a ∧ endAt p s n a ≤ s.size ∧ (endAt p s n a = s.size ∨ ∃ h : endAt p s n a < s.size, p (s[endAt p s n a]'h) = true) ∧ ∀ j, a ≤ j → j < endAt p s n a → ∀ h : j < s.size, p (s[j]'h) = false := by
  intro n
  induction n with
  | zero =>
    intro a ha hn
    rw [endAt]
    exact ⟨Nat.le_refl _, ha, .inl (by omega), fun j h1 h2 => by omega⟩
  | succ n ih =>
    intro a ha hn
    rw [endAt]
    by_cases h : a < s.size
    · rw [dif_pos h]
      by_cases hp : p s[a] = true
      · rw [if_pos hp]
        exact ⟨Nat.le_refl _, ha, .inr ⟨h, hp⟩, fun j h1 h2 => by omega⟩
      · rw [if_neg hp]
        obtain ⟨h1, h2, h3, h4⟩ := ih (a + 1) (by omega) (by omega)
        refine ⟨by omega, h2, h3, fun j hj1 hj2 hj => ?_⟩
        by_cases e : j = a
        · subst e; simpa using hp
        · exact h4 j (by omega) hj2 hj
    · rw [dif_neg h]
      exact ⟨Nat.le_refl _, ha, .inl (by omega), fun j h1 h2 => by omega⟩
theorem endOf_spec (p : UInt8 → Bool) (s : ByteArray) (a : Nat) (ha : a ≤ s.size) :
    a ≤ endOf p s a ∧ endOf p s a ≤ s.size ∧ (endOf p s a = s.size ∨ ∃ h : endOf p s a < s.size, p (s[endOf p s a]'h) = true) ∧ ∀ j, a ≤ j → j < endOf p s a → ∀ h : j < s.size, p (s[j]'h) = false :=
  endAt_spec p s s.size a ha (by omega)
theorem at_extract {s : ByteArray} {a b j : Nat} (h : j < (s.extract a b).size) (h2 : a + j < s.size) : (s.extract a b)[j] = s[a + j] := by
  rw [ByteArray.getElem_extract]
theorem size_ext {s : ByteArray} {a b : Nat} (hb : b ≤ s.size) : (s.extract a b).size = b - a := by rw [ByteArray.size_extract]; omega
theorem empty_ext {s : ByteArray} {a b : Nat} (h : b ≤ a) : s.extract a b = ByteArray.empty := by
  apply ByteArray.ext
  apply Array.eq_empty_of_size_eq_zero
  have := ByteArray.size_extract (a := s) (b := a) (e := b)
  show (s.extract a b).size = 0
  omega
/-- Within a part of a text, as within the text. -/
theorem endOf_sub (p : UInt8 → Bool) (s : ByteArray) (a b : Nat) (hab : a ≤ b) (hb : b ≤ s.size) : endOf p (s.extract a b) 0 = min (endOf p s a) b - a := by
  obtain ⟨h1, h2, h3, h4⟩ := endOf_spec p s a (by omega)
  have hz := size_ext (s := s) (a := a) hb
  refine endOf_eq (Nat.zero_le _) (by omega) ?_ (fun j _ hj => ?_)
  · by_cases h : endOf p s a < b
    · right
      have e : a + (min (endOf p s a) b - a) = endOf p s a := by omega
      refine ⟨by omega, ?_⟩
      rw [at_extract (by omega) (by omega)]
      rcases h3 with h5 | ⟨h5, h6⟩
      · omega
      · simp only [e]; exact h6
    · left; omega
  · rw [at_extract (by omega) (by omega)]
    exact h4 (a + j) (by omega) (by omega) _
def cutNl (t : ByteArray) : ByteArray := if endOf isNl t 0 < t.size then t.extract 0 (endOf isNl t 0) else t
def restNl (t : ByteArray) : ByteArray := if endOf isNl t 0 < t.size then t.extract (endOf isNl t 0 + 1) t.size else ByteArray.empty
def cutHash (t : ByteArray) : ByteArray := if endOf isHash t 0 < t.size then t.extract 0 (endOf isHash t 0) else t
def linesS : Nat → ByteArray → List ByteArray
  | 0, _ => []
  | n + 1, t => if t.size = 0 then [] else cutHash (cutNl t) :: linesS n (restNl t)
theorem cutNl_eq (s : ByteArray) (a : Nat) (ha : a ≤ s.size) : cutNl (s.extract a s.size) = s.extract a (endOf isNl s a) := by
  obtain ⟨h1, h2, h3, h4⟩ := endOf_spec isNl s a ha
  have e := endOf_sub isNl s a s.size ha (Nat.le_refl _)
  have hz := size_ext (s := s) (a := a) (Nat.le_refl _)
  unfold cutNl
  rw [e, hz]
  split
  · rw [ByteArray.extract_extract]
    congr 1
    omega
  · congr 1
    omega
theorem restNl_eq (s : ByteArray) (a : Nat) (ha : a ≤ s.size) : restNl (s.extract a s.size) = s.extract (endOf isNl s a + 1) s.size := by
  obtain ⟨h1, h2, h3, h4⟩ := endOf_spec isNl s a ha
  have e := endOf_sub isNl s a s.size ha (Nat.le_refl _)
  have hz := size_ext (s := s) (a := a) (Nat.le_refl _)
  unfold restNl
  rw [e, hz]
  split
  · rw [ByteArray.extract_extract]
    congr 1 <;> omega
  · rw [empty_ext (by omega)]
theorem cutHash_eq (s : ByteArray) (a b : Nat) (hab : a ≤ b) (hb : b ≤ s.size) : cutHash (s.extract a b) = s.extract a (min (endOf isHash s a) b) := by
  obtain ⟨h1, h2, h3, h4⟩ := endOf_spec isHash s a (by omega)
  have e := endOf_sub isHash s a b hab hb
  have hz := size_ext (s := s) (a := a) hb
  unfold cutHash
  rw [e, hz]
  split
  · rw [ByteArray.extract_extract]
    congr 1
    omega
  · congr 1
    omega
theorem linesS_eq (s : ByteArray) : ∀ n a, linesS n (s.extract a s.size) = linesK s n a
  | 0, _ => rfl
  | n + 1, a => by
    rw [linesS, linesK]
    by_cases h : a < s.size
    · have hz := size_ext (s := s) (a := a) (Nat.le_refl _)
      obtain ⟨h1, h2, h3, h4⟩ := endOf_spec isNl s a (by omega)
      rw [if_neg (by omega), if_pos h, cutNl_eq s a (by omega), restNl_eq s a (by omega), cutHash_eq s a _ h1 h2, linesS_eq s n]
    · rw [if_neg h, if_pos (by rw [ByteArray.size_extract]; omega)]
theorem linesS_all (s : ByteArray) : linesS s.size s = linesOf s := by
  have := linesS_eq s s.size 0
  rw [ByteArray.extract_zero_size] at this
  rw [this]; rfl
theorem restNl_lt (t : ByteArray) (h : 0 < t.size) : (restNl t).size < t.size := by
  unfold restNl
  split
  · rw [ByteArray.size_extract]; omega
  · exact h
theorem linesS_fuel : ∀ n m t, t.size ≤ n → t.size ≤ m → linesS n t = linesS m t
  | 0, m, t, hn, _ => by
    cases m with
    | zero => rfl
    | succ m => rw [linesS, linesS, if_pos (by omega)]
  | n + 1, m, t, hn, hm => by
    cases m with
    | zero => rw [linesS, linesS, if_pos (by omega)]
    | succ m =>
      rw [linesS, linesS]
      by_cases h : t.size = 0
      · rw [if_pos h, if_pos h]
      · rw [if_neg h, if_neg h]
        have := restNl_lt t (by omega)
        rw [linesS_fuel n m (restNl t) (by omega) (by omega)]
/-- The lines of a text. -/
def linesT (t : ByteArray) : List ByteArray := linesS t.size t
theorem linesT_nil {t : ByteArray} (h : t.size = 0) : linesT t = [] := by unfold linesT; rw [h, linesS]
theorem linesT_cons {t : ByteArray} (h : 0 < t.size) : linesT t = cutHash (cutNl t) :: linesT (restNl t) := by
  unfold linesT
  obtain ⟨k, hk⟩ : ∃ k, t.size = k + 1 := ⟨t.size - 1, by omega⟩
  rw [hk, linesS, if_neg (by omega)]
  have := restNl_lt t h
  rw [linesS_fuel k _ (restNl t) (by omega) (Nat.le_refl _)]
end Go.Proofs.Ytoepkhkaifgddaa
