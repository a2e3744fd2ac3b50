/- Lines and pieces of a text, as plain data; no program in sight. -/
import Derived.Test.YtoepkhkaifgddaaDigIter
namespace Go.Proofs.Ytoepkhkaifgddaa

/-- The first place from a on where p holds; the text's end, if there is none (n places looked at). -/
def endAt (p : UInt8 → Bool) (s : ByteArray) : Nat → Nat → Nat
  | 0, a => a
  | n + 1, a => if h : a < s.size then (if p s[a] = true then a else endAt p s n (a + 1)) else a
def endOf (p : UInt8 → Bool) (s : ByteArray) (a : Nat) : Nat := endAt p s s.size a
theorem endAt_eq (p : UInt8 → Bool) (s : ByteArray) (i : Nat) (hi : i ≤ s.size) (hend : i = s.size ∨ ∃ h : i < s.size, p s[i] = true) :
    ∀ n a, a ≤ i → i - a ≤ n → (∀ j, a ≤ j → (h : j < i) → p (s[j]'(by omega)) = false) → endAt p s n a = i := by
  intro n
  induction n with
  | zero => intro a ha hn _; rw [endAt]; omega
  | succ n ih =>
    intro a ha hn hall
    rw [endAt]
    by_cases he : a = i
    · subst he
      rcases hend with h | ⟨h, hp⟩
      · rw [dif_neg (by omega)]
      · rw [dif_pos h, if_pos hp]
    · rw [dif_pos (by omega), if_neg (by rw [hall a (Nat.le_refl _) (by omega)]; simp)]
      exact ih (a + 1) (by omega) (by omega) (fun j h1 h2 => hall j (by omega) h2)
theorem endOf_eq {p : UInt8 → Bool} {s : ByteArray} {a i : Nat} (ha : a ≤ i) (hi : i ≤ s.size) (hend : i = s.size ∨ ∃ h : i < s.size, p s[i] = true) (hall : ∀ j, a ≤ j → (h : j < i) → p (s[j]'(by omega)) = false) : endOf p s a = i :=
  endAt_eq p s i hi hend s.size a ha (by omega) hall
theorem endAt_ge (p : UInt8 → Bool) (s : ByteArray) : ∀ n a, a ≤ endAt p s n a ∧ (a ≤ s.size → endAt p s n a ≤ s.size)
  | 0, a => ⟨Nat.le_refl _, id⟩
  | n + 1, a => by
    have := endAt_ge p s n (a + 1)
    rw [endAt]
    split
    · split
      · exact ⟨Nat.le_refl _, id⟩
      · exact ⟨by omega, fun _ => this.2 (by omega)⟩
    · exact ⟨Nat.le_refl _, id⟩
def isNl (c : UInt8) : Bool := c == 10
def isHash (c : UInt8) : Bool := c == 35
def isSp (c : UInt8) : Bool := c == 32
/-- The lines from place a on. -/
def linesK (s : ByteArray) : Nat → Nat → List ByteArray
  | 0, _ => []
  | n + 1, a => if a < s.size then s.extract a (min (endOf isHash s a) (endOf isNl s a)) :: linesK s n (endOf isNl s a + 1) else []
theorem linesK_fuel (s : ByteArray) : ∀ n a, s.size - a ≤ n → linesK s n a = linesK s (s.size - a) a := by
  have key : ∀ n m a, s.size - a ≤ n → s.size - a ≤ m → linesK s n a = linesK s m a := by
    intro n
    induction n with
    | zero =>
      intro m a hn hm
      cases m with
      | zero => rfl
      | succ m => rw [linesK, linesK, if_neg (by omega)]
    | succ n ih =>
      intro m a hn hm
      cases m with
      | zero => rw [linesK, linesK, if_neg (by omega)]
      | succ m =>
        rw [linesK, linesK]
        by_cases h : a < s.size
        · have := (endAt_ge isNl s s.size a).1
          rw [if_pos h, if_pos h, ih m (endOf isNl s a + 1) (by unfold endOf; omega) (by unfold endOf; omega)]
        · rw [if_neg h, if_neg h]
  exact fun n a h => key n _ a h (Nat.le_refl _)
def linesA (s : ByteArray) (a : Nat) : List ByteArray := linesK s (s.size - a) a
theorem linesA_end (s : ByteArray) (a : Nat) (h : s.size ≤ a) : linesA s a = [] := by
  unfold linesA
  rw [show s.size - a = 0 by omega, linesK]
theorem linesA_step (s : ByteArray) (a i c : Nat) (h : a < s.size) (hi : endOf isNl s a = i) (hc : min (endOf isHash s a) i = c) : linesA s a = s.extract a c :: linesA s (i + 1) := by
  unfold linesA
  obtain ⟨k, hk⟩ : ∃ k, s.size - a = k + 1 := ⟨s.size - a - 1, by omega⟩
  have hg := (endAt_ge isNl s s.size a).1
  rw [hk, linesK, if_pos h, hi, hc, linesK_fuel s k (i + 1) (by rw [← hi]; unfold endOf; omega)]
theorem linesA_len (s : ByteArray) : ∀ n a, s.size - a ≤ n → (linesA s a).length ≤ n := by
  intro n
  induction n with
  | zero => intro a h; rw [linesA_end s a (by omega)]; simp
  | succ n ih =>
    intro a h
    by_cases ha : a < s.size
    · rw [linesA_step s a _ _ ha rfl rfl, List.length_cons]
      have hg := (endAt_ge isNl s s.size a).1
      have := ih (endOf isNl s a + 1) (by unfold endOf; omega)
      omega
    · rw [linesA_end s a (by omega)]; simp
def linesOf (s : ByteArray) : List ByteArray := linesA s 0

theorem isBlank_sp {s : ByteArray} {i : Nat} (h : i < s.size) : isBlank s i = isSp s[i] := by unfold isBlank isSp; rw [dif_pos h]
/-- What the document has gathered ahead of place i. -/
def rpAt (s : ByteArray) (i : Nat) : List ByteArray := (scan s i).1 ++ (match (scan s i).2 with | some a => [s.extract a (endOf isSp s a)] | none => [])
theorem scan_none {s : ByteArray} : ∀ i, (scan s i).2 = none ↔ (i = 0 ∨ ∃ j, i = j + 1 ∧ isBlank s j = true)
  | 0 => by simp [scan]
  | i + 1 => by
    cases hb : isBlank s i <;> cases hf : (scan s i).2
    · rw [scan_char_none hb hf]; simp [hb]
    · rw [scan_char_some hb hf, hf]; simp [hb]
    · rw [scan_blank_none hb hf, hf]; simp [hb]
    · rw [scan_blank_some hb hf]; simp [hb]
theorem scan_run {s : ByteArray} : ∀ i a, (scan s i).2 = some a → a < i ∧ ∀ j, a ≤ j → j < i → isBlank s j = false
  | 0, a, h => by simp [scan] at h
  | i + 1, a, h => by
    cases hb : isBlank s i <;> cases hf : (scan s i).2
    · rw [scan_char_none hb hf] at h
      simp at h
      subst h
      exact ⟨by omega, fun j h1 h2 => by obtain rfl : j = i := by omega
                                         exact hb⟩
    · rw [scan_char_some hb hf, hf] at h
      rename_i b
      obtain rfl : b = a := by simpa using h
      have := scan_run i b hf
      exact ⟨by omega, fun j h1 h2 => by
        by_cases e : j = i
        · subst e; exact hb
        · exact this.2 j h1 (by omega)⟩
    · rw [scan_blank_none hb hf, hf] at h; cases h
    · rw [scan_blank_some hb hf] at h; simp at h
theorem rp_end {s : ByteArray} {a i : Nat} (h : (scan s i).2 = some a) (hi : i ≤ s.size) (hend : i = s.size ∨ ∃ h : i < s.size, isSp s[i] = true) : endOf isSp s a = i := by
  obtain ⟨h1, h2⟩ := scan_run i a h
  refine endOf_eq (by omega) hi hend (fun j hj hji => ?_)
  rw [← isBlank_sp (by omega)]
  exact h2 j hj hji
theorem rp_same {s : ByteArray} {i : Nat} (hi : i < s.size) (h : isBlank s i = true ∨ (scan s i).2.isSome = true) : rpAt s (i + 1) = rpAt s i := by
  unfold rpAt
  cases hb : isBlank s i
  · rcases h with h | h
    · rw [hb] at h; cases h
    · obtain ⟨a, ha⟩ := Option.isSome_iff_exists.1 h
      rw [scan_char_some hb ha]
  · cases hf : (scan s i).2 with
    | none => rw [scan_blank_none hb hf, hf]
    | some a =>
      have e := rp_end hf (by omega) (.inr ⟨hi, by rw [← isBlank_sp hi]; exact hb⟩)
      rw [scan_blank_some hb hf]
      simp [e]
theorem rp_new {s : ByteArray} {i : Nat} (hb : isBlank s i = false) (hf : (scan s i).2 = none) : rpAt s (i + 1) = rpAt s i ++ [s.extract i (endOf isSp s i)] := by
  unfold rpAt
  rw [scan_char_none hb hf, hf]
  simp
theorem rp_fin (s : ByteArray) : rpAt s s.size = piecesOf s := by
  unfold rpAt piecesOf
  cases hf : (scan s s.size).2 with
  | none => rw [scan_blank_none (isBlank_end s) hf]; simp
  | some a =>
    have e := rp_end hf (Nat.le_refl _) (.inl rfl)
    rw [scan_blank_some (isBlank_end s) hf]
    simp [e]
end Go.Proofs.Ytoepkhkaifgddaa
