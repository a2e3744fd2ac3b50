/- May an edge be: the program's own test. -/
import Derived.Test.YtoepkhkaifgddaaImgP
namespace Go.Proofs.Ytoepkhkaifgddaa
open Go.RowKit

theorem firstBad_le {α : Type} {ok : Nat → α → Bool} : ∀ (l : List α) (i j : Nat) (hj : j < l.length), (∀ m, ok m l[j] = false) → ∃ k, firstBad ok i l = some k ∧ k ≤ i + j
  | [], i, j, hj, _ => by simp at hj
  | a :: l, i, j, hj, h => by
    rw [firstBad]
    cases hi : ok i a
    · exact ⟨i, by simp, by omega⟩
    · cases j with
      | zero => have := h i; simp at this; rw [this] at hi; cases hi
      | succ j =>
        obtain ⟨k, h1, h2⟩ := firstBad_le l (i + 1) j (by simpa using hj) (fun m => by simpa using h m)
        exact ⟨k, by simpa using h1, by omega⟩
theorem firstBad_none {α : Type} {p : α → Bool} : ∀ (l : List α) (i : Nat), (firstBad (fun _ a => p a) i l = none) ↔ l.all p = true
  | [], i => by simp [firstBad]
  | a :: l, i => by
    rw [firstBad, List.all_cons]
    cases hp : p a
    · simp
    · simpa using firstBad_none l (i + 1)
theorem edgeAt_self (es : List Edg) (i : Nat) (hi : i < es.length) : ∃ k, edgeAt es es[i].frm es[i].to = some k ∧ k ≤ i ∧ ((k = i) ↔ (es.take i).all (fun f => !(f.frm == es[i].frm && f.to == es[i].to)) = true) := by
  obtain ⟨k, hk, hle⟩ := firstBad_le (ok := edgeIs es[i].frm es[i].to) es 0 i hi (fun m => by simp [edgeIs])
  refine ⟨k, hk, by omega, ?_⟩
  rw [← firstBad_none (p := fun f => !(f.frm == es[i].frm && f.to == es[i].to)) (es.take i) 0]
  have hk' : firstBad (edgeIs es[i].frm es[i].to) 0 es = some k := hk
  constructor
  · rintro rfl
    rcases hq : firstBad (edgeIs es[k].frm es[k].to) 0 (es.take k) with _ | j
    · exact hq
    · have h2 := firstBad_append (edgeIs es[k].frm es[k].to) (es.take k) (es.drop k) 0
      rw [List.take_append_drop, hq, hk'] at h2
      obtain rfl : k = j := by simpa using h2
      have hlt : ∀ (l : List Edg) (i j : Nat), firstBad (edgeIs es[k].frm es[k].to) i l = some j → j < i + l.length := by
        intro l
        induction l with
        | nil => intro i j h; simp [firstBad] at h
        | cons a l ih =>
          intro i j h
          rw [firstBad] at h
          split at h
          · have := ih _ _ h; simp; omega
          · simp at h; simp; omega
      have := hlt _ _ _ hq
      simp at this
      omega
  · intro h
    have h2 := firstBad_at (edgeIs es[i].frm es[i].to) hi h (by simp [edgeIs])
    rw [hk'] at h2
    simpa using h2

theorem mode_getD (x : Img) (m : Int) (h0 : 0 ≤ m) (h : m < x.modes.length) : x.modes.getD m.toNat ⟨0, []⟩ = x.modes[m.toNat]'(by omega) := by
  rw [List.getD_eq_getElem?_getD, List.getElem?_eq_getElem (by omega)]; rfl

end Go.Proofs.Ytoepkhkaifgddaa
