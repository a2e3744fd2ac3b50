/- The entries by their numbers: what is found one behind the other is the row that is laid out by inserting. No condition. -/
import Derived.Test.YteanpgkonhdbpaaJrPlain
namespace Go.Proofs.Yteanpgkonhdbpaa

/-- An entry put into its place; none is put in whose number is there. -/
def insE : List (Nat × Nat) → Nat × Nat → List (Nat × Nat)
  | [], e => [e]
  | x :: l, e => if x.1 < e.1 then x :: insE l e else if x.1 = e.1 then x :: l else e :: x :: l
def sortE (E : List (Nat × Nat)) : List (Nat × Nat) := E.foldl insE []
/-- The entry with the least number over one. -/
def pickE (last : Nat) (b e : Nat × Nat) : Nat × Nat := if last < e.1 ∧ (b.1 = 0 ∨ e.1 < b.1) then e else b
def bestE (last : Nat) (E : List (Nat × Nat)) : Nat × Nat := E.foldl (pickE last) (0, 0)
def SortedE (L : List (Nat × Nat)) : Prop := L.Pairwise (fun a b => a.1 < b.1)

theorem find_insE (last : Nat) (e : Nat × Nat) (he : 1 ≤ e.1) : ∀ L : List (Nat × Nat), (∀ x ∈ L, 1 ≤ x.1) → ((insE L e).find? (fun x => decide (last < x.1))).getD (0, 0) = pickE last ((L.find? (fun x => decide (last < x.1))).getD (0, 0)) e
  | [], _ => by
    unfold insE pickE
    by_cases h : last < e.1
    · simp [List.find?, h]
    · simp [List.find?, h]
  | x :: l, hx => by
    have ih := find_insE last e he l (fun y hy => hx y (by simp [hy]))
    have hx1 := hx x (by simp)
    unfold insE
    by_cases h1 : x.1 < e.1
    · rw [if_pos h1]
      by_cases h2 : last < x.1
      · rw [List.find?_cons_of_pos (by simpa using h2), List.find?_cons_of_pos (by simpa using h2)]
        unfold pickE
        simp only [Option.getD_some]
        rw [if_neg (by omega)]
      · rw [List.find?_cons_of_neg (by simpa using h2), List.find?_cons_of_neg (by simpa using h2)]
        exact ih
    · rw [if_neg h1]
      by_cases h3 : x.1 = e.1
      · rw [if_pos h3]
        by_cases h2 : last < x.1
        · rw [List.find?_cons_of_pos (by simpa using h2)]
          unfold pickE
          simp only [Option.getD_some]
          rw [if_neg (by omega)]
        · unfold pickE
          rw [if_neg (by omega)]
      · rw [if_neg h3]
        by_cases h2 : last < e.1
        · rw [List.find?_cons_of_pos (by simpa using h2)]
          rw [List.find?_cons_of_pos (a := x) (by simp; omega)]
          unfold pickE
          simp only [Option.getD_some]
          rw [if_pos (by omega)]
        · rw [List.find?_cons_of_neg (by simpa using h2)]
          unfold pickE
          rw [if_neg (by omega)]
theorem mem_insE {L : List (Nat × Nat)} {e x : Nat × Nat} (h : x ∈ insE L e) : x = e ∨ x ∈ L := by
  induction L with
  | nil => exact .inl (by simpa [insE] using h)
  | cons y l ih =>
    unfold insE at h
    split at h
    · rcases List.mem_cons.1 h with h | h
      · exact .inr (by simp [h])
      · rcases ih h with h | h
        · exact .inl h
        · exact .inr (by simp [h])
    · split at h
      · exact .inr h
      · rcases List.mem_cons.1 h with h | h
        · exact .inl h
        · exact .inr h
theorem insE_old {L : List (Nat × Nat)} {e x : Nat × Nat} (h : x ∈ L) : x ∈ insE L e := by
  induction L with
  | nil => cases h
  | cons y l ih =>
    unfold insE
    split
    · rcases List.mem_cons.1 h with h | h
      · simp [h]
      · simp [ih h]
    · split
      · exact h
      · exact List.mem_cons_of_mem _ h
theorem insE_new (L : List (Nat × Nat)) (e : Nat × Nat) : ∃ x ∈ insE L e, x.1 = e.1 := by
  induction L with
  | nil => exact ⟨e, by simp [insE], rfl⟩
  | cons y l ih =>
    unfold insE
    split
    · obtain ⟨x, h1, h2⟩ := ih
      exact ⟨x, by simp [h1], h2⟩
    · split
      · rename_i h
        exact ⟨y, by simp, h⟩
      · exact ⟨e, by simp, rfl⟩
theorem insE_sorted {L : List (Nat × Nat)} {e : Nat × Nat} (h : SortedE L) : SortedE (insE L e) := by
  induction L with
  | nil => simp [insE, SortedE]
  | cons y l ih =>
    unfold SortedE at h ih ⊢
    rw [List.pairwise_cons] at h
    unfold insE
    split
    · rename_i h1
      rw [List.pairwise_cons]
      refine ⟨fun x hx => ?_, ih h.2⟩
      rcases mem_insE hx with rfl | hx
      · exact h1
      · exact h.1 x hx
    · split
      · rw [List.pairwise_cons]; exact h
      · rename_i h1 h2
        rw [List.pairwise_cons, List.pairwise_cons]
        refine ⟨fun x hx => ?_, h⟩
        rcases List.mem_cons.1 hx with rfl | hx
        · omega
        · have := h.1 x hx; omega
theorem sort_snoc (E : List (Nat × Nat)) (e : Nat × Nat) : sortE (E ++ [e]) = insE (sortE E) e := by unfold sortE; rw [List.foldl_append]; rfl
theorem sort_sorted (E : List (Nat × Nat)) : SortedE (sortE E) := by
  suffices h : ∀ (E L : List (Nat × Nat)), SortedE L → SortedE (E.foldl insE L) from h E [] (by simp [SortedE])
  intro E
  induction E with
  | nil => intro L h; exact h
  | cons e E ih => intro L h; exact ih _ (insE_sorted h)
theorem fold_mem : ∀ (E L : List (Nat × Nat)) (x : Nat × Nat), x ∈ E.foldl insE L → x ∈ E ∨ x ∈ L
  | [], _, _, h => .inr h
  | e :: E, L, x, h => by
    rcases fold_mem E _ x h with h | h
    · exact .inl (by simp [h])
    · rcases mem_insE h with h | h
      · exact .inl (by simp [h])
      · exact .inr h
theorem sort_mem {E : List (Nat × Nat)} {x : Nat × Nat} (h : x ∈ sortE E) : x ∈ E := by
  rcases fold_mem E [] x h with h | h
  · exact h
  · cases h
theorem fold_old : ∀ (E L : List (Nat × Nat)) (x : Nat × Nat), x ∈ L → x ∈ E.foldl insE L
  | [], _, _, h => h
  | _ :: E, _, x, h => fold_old E _ x (insE_old h)
theorem fold_num : ∀ (E L : List (Nat × Nat)) (x : Nat × Nat), x ∈ E → ∃ y ∈ E.foldl insE L, y.1 = x.1
  | e :: E, L, x, h => by
    rcases List.mem_cons.1 h with rfl | h
    · obtain ⟨y, h1, h2⟩ := insE_new L x
      exact ⟨y, fold_old E _ y h1, h2⟩
    · exact fold_num E _ x h
/-- Where no two have the same number, all are there. -/
theorem sort_all {E : List (Nat × Nat)} {x : Nat × Nat} (h : x ∈ E) (hu : ∀ y ∈ E, y.1 = x.1 → y = x) : x ∈ sortE E := by
  obtain ⟨y, h1, h2⟩ := fold_num E [] x h
  have := hu y (sort_mem h1) h2
  rw [← this]
  exact h1
theorem best_find (last : Nat) : ∀ (E L : List (Nat × Nat)), (∀ x ∈ E, 1 ≤ x.1) → (∀ x ∈ L, 1 ≤ x.1) → E.foldl (pickE last) ((L.find? (fun x => decide (last < x.1))).getD (0, 0)) = ((E.foldl insE L).find? (fun x => decide (last < x.1))).getD (0, 0)
  | [], _, _, _ => rfl
  | e :: E, L, h1, h2 => by
    rw [List.foldl_cons, List.foldl_cons, ← find_insE last e (h1 e (by simp)) L h2]
    exact best_find last E _ (fun x hx => h1 x (by simp [hx])) (fun x hx => by
      rcases mem_insE hx with rfl | hx
      · exact h1 _ (by simp)
      · exact h2 x hx)
theorem best_eq (last : Nat) {E : List (Nat × Nat)} (h : ∀ x ∈ E, 1 ≤ x.1) : bestE last E = ((sortE E).find? (fun x => decide (last < x.1))).getD (0, 0) := best_find last E [] h (fun _ h => by cases h)
theorem find_sorted {last : Nat} : ∀ (pre rest : List (Nat × Nat)), (∀ x ∈ pre, x.1 ≤ last) → (∀ x ∈ rest, last < x.1) → (pre ++ rest).find? (fun x => decide (last < x.1)) = rest.head?
  | [], [], _, _ => rfl
  | [], x :: l, _, h => by rw [List.nil_append, List.find?_cons_of_pos (by simpa using h x (by simp))]; rfl
  | y :: pre, rest, h1, h2 => by
    rw [List.cons_append, List.find?_cons_of_neg (by have := h1 y (by simp); simp; omega)]
    exact find_sorted pre rest (fun x hx => h1 x (by simp [hx])) h2
/-- Behind the first k of the row comes the k-th. -/
theorem best_at {E : List (Nat × Nat)} (h : ∀ x ∈ E, 1 ≤ x.1) (k last : Nat) (hk : k ≤ (sortE E).length) (hl : k = 0 ∧ last = 0 ∨ ∃ x, 1 ≤ k ∧ (sortE E)[k - 1]? = some x ∧ last = x.1) :
    bestE last E = ((sortE E)[k]?).getD (0, 0) := by
  have hs := sort_sorted E
  rw [best_eq last h]
  have hpos : ∀ x ∈ sortE E, 1 ≤ x.1 := fun x hx => h x (sort_mem hx)
  generalize sortE E = L at *
  unfold SortedE at hs
  rw [List.pairwise_iff_getElem] at hs
  have hf := find_sorted (last := last) (L.take k) (L.drop k) (fun x hx => ?_) (fun x hx => ?_)
  · rw [List.take_append_drop, List.head?_drop] at hf
    rw [hf]
  · obtain ⟨i, hi, rfl⟩ := List.mem_iff_getElem.1 hx
    rw [List.length_take] at hi
    rw [List.getElem_take]
    rcases hl with ⟨h0, _⟩ | ⟨y, h1, hy, h2⟩
    · omega
    · obtain ⟨hy1, rfl⟩ := List.getElem?_eq_some_iff.1 hy
      rw [h2]
      rcases Nat.lt_or_ge i (k - 1) with g | g
      · exact Nat.le_of_lt (hs i (k - 1) (by omega) (by omega) g)
      · have : i = k - 1 := by omega
        subst this
        exact Nat.le_refl _
  · obtain ⟨i, hi, rfl⟩ := List.mem_iff_getElem.1 hx
    rw [List.length_drop] at hi
    rw [List.getElem_drop]
    rcases hl with ⟨_, h0⟩ | ⟨y, h1, hy, h2⟩
    · rw [h0]; exact hpos _ (List.getElem_mem _)
    · obtain ⟨hy1, rfl⟩ := List.getElem?_eq_some_iff.1 hy
      rw [h2]
      exact hs (k - 1) (k + i) (by omega) (by omega) (by omega)
/-- An entry's place, looked for from the end. -/
theorem insE_place {L : List (Nat × Nat)} {e : Nat × Nat} (hs : SortedE L) {k : Nat} (hk : k ≤ L.length) (h1 : ∀ i, (hi : i < L.length) → k ≤ i → e.1 < L[i].1) (h2 : ∀ (h : 1 ≤ k), (L[k - 1]'(by omega)).1 ≤ e.1) :
    insE L e = if ∃ (h : 1 ≤ k), (L[k - 1]'(by omega)).1 = e.1 then L else L.take k ++ e :: L.drop k := by
  induction L generalizing k with
  | nil =>
    have : k = 0 := by simpa using hk
    subst this
    rw [if_neg (fun ⟨h, _⟩ => absurd h (by omega))]
    rfl
  | cons x l ih =>
    unfold SortedE at hs ih
    rw [List.pairwise_cons] at hs
    cases k with
    | zero =>
      have := h1 0 (by simp) (Nat.le_refl _)
      rw [List.getElem_cons_zero] at this
      rw [if_neg (fun ⟨h, _⟩ => absurd h (by omega))]
      unfold insE
      rw [if_neg (by omega), if_neg (by omega)]
      rfl
    | succ k =>
      have hk' : k ≤ l.length := by simpa using hk
      have h1' : ∀ i, (hi : i < l.length) → k ≤ i → e.1 < l[i].1 := fun i hi g => by
        have := h1 (i + 1) (by simpa using hi) (by omega)
        rwa [List.getElem_cons_succ] at this
      cases k with
      | zero =>
        have h3 := h2 (by omega)
        simp only [Nat.zero_add, Nat.sub_self, List.getElem_cons_zero] at h3
        unfold insE
        by_cases h4 : x.1 = e.1
        · rw [if_neg (by omega), if_pos h4, if_pos ⟨by omega, by simpa using h4⟩]
        · rw [if_pos (by omega), if_neg (fun ⟨h, g⟩ => h4 (by simpa using g)), ih hs.2 (k := 0) (Nat.zero_le _) h1' (fun h => absurd h (by omega)), if_neg (fun ⟨h, _⟩ => absurd h (by omega))]
          rfl
      | succ k =>
        have h3 := h2 (by omega)
        have e1 : ((x :: l)[k + 1 + 1 - 1]'(by simp; omega)) = l[k + 1 - 1]'(by omega) := by simp
        rw [e1] at h3
        have hx : x.1 < e.1 := Nat.lt_of_lt_of_le (hs.1 _ (List.getElem_mem _)) h3
        unfold insE
        rw [if_pos hx, ih hs.2 (k := k + 1) hk' h1' (fun _ => h3)]
        by_cases h4 : (l[k + 1 - 1]'(by omega)).1 = e.1
        · rw [if_pos ⟨by omega, h4⟩, if_pos ⟨by omega, by rw [e1]; exact h4⟩]
        · rw [if_neg (fun ⟨_, g⟩ => h4 g), if_neg (fun ⟨_, g⟩ => h4 (by rw [e1] at g; exact g))]
          rfl
end Go.Proofs.Yteanpgkonhdbpaa
