/- Images that may be are small. No program in sight. No condition. -/
import Derived.Test.YteflgdnekflbbaaDoorImgRC
import Derived.Test.YteflgdnekflbbaaDoorSdLaw
namespace Go.Proofs.YteflgdnekflbbaaDoor
open Go.RowKit

/-- An image that may be has small numbers. -/
theorem small_of {x : Img} (h : (chkImg x).2 = 0) : Small x := by
  unfold chkImg at h
  by_cases h1 : inR x.res 0 8 = false
  · rw [if_pos h1] at h; cases h
  rw [if_neg h1] at h
  by_cases h2 : inR x.tasks.length 1 16 = false
  · rw [if_pos h2] at h; cases h
  rw [if_neg h2] at h
  have hn : 1 ≤ x.tasks.length ∧ x.tasks.length ≤ 16 := by
    have : inR x.tasks.length 1 16 = true := by simpa using h2
    unfold inR at this; simp at this; omega
  cases hb : firstBad (fun _ t => tskOk t x.res) 0 x.tasks with
  | some i => rw [hb] at h; cases h
  | none =>
    have key : ∀ (l : List Tsk) (i : Nat), firstBad (fun _ t => tskOk t x.res) i l = none → ∀ t ∈ l, tskOk t x.res = true := by
      intro l
      induction l with
      | nil => intro i _ t ht; simp at ht
      | cons a l ih =>
        intro i hf t ht
        rw [firstBad] at hf
        by_cases ho : tskOk a x.res = true
        · rw [if_pos ho] at hf
          rcases List.mem_cons.1 ht with rfl | ht
          · exact ho
          · exact ih (i + 1) hf t ht
        · rw [if_neg ho] at hf; cases hf
    have ok := key x.tasks 0 hb
    have lonb : ∀ (cost res : Int) (l : List Int) (r : Nat), 0 ≤ cost → lonOk cost res r l = true → ∀ z ∈ l, 0 ≤ z ∧ z ≤ cost := by
      intro cost res l
      induction l with
      | nil => intro r _ _ z hz; simp at hz
      | cons a l ih =>
        intro r hc hl z hz
        rw [lonOk, Bool.and_eq_true] at hl
        rcases List.mem_cons.1 hz with rfl | hz
        · have := hl.1
          unfold inR at this
          simp at this
          split at this <;> omega
        · exact ih (r + 1) hc hl.2 z hz
    have parts : ∀ t ∈ x.tasks, (1 ≤ t.per ∧ t.per ≤ 4096) ∧ (1 ≤ t.ded ∧ t.ded ≤ t.per) ∧ (1 ≤ t.cost ∧ t.cost ≤ t.ded) ∧ ∀ z ∈ t.lon, 0 ≤ z ∧ z ≤ t.cost := by
      intro t ht
      have := ok t ht
      unfold tskOk at this
      simp only [Bool.and_eq_true] at this
      obtain ⟨⟨⟨a, b⟩, c⟩, d⟩ := this
      unfold inR at a b c
      simp at a b c
      exact ⟨a, b, c, lonb t.cost x.res t.lon 0 (by omega) d⟩
    refine ⟨hn.2, fun t ht z hz => ?_, fun t ht => ?_, fun t ht => ?_, fun t ht => ?_⟩
    · obtain ⟨a, b, c, d⟩ := parts t ht; have := d z hz; omega
    · obtain ⟨a, b, c, d⟩ := parts t ht; omega
    · obtain ⟨a, b, c, d⟩ := parts t ht; omega
    · obtain ⟨a, b, c, d⟩ := parts t ht; omega
theorem pos_of {x : Img} (h : (chkImg x).2 = 0) : 1 ≤ x.tasks.length := by
  unfold chkImg at h
  by_cases h1 : inR x.res 0 8 = false
  · rw [if_pos h1] at h; cases h
  rw [if_neg h1] at h
  by_cases h2 : inR x.tasks.length 1 16 = false
  · rw [if_pos h2] at h; cases h
  have : inR x.tasks.length 1 16 = true := by simpa using h2
  unfold inR at this; simp at this; omega

/-- Are all Periods of at most 400? -/
def perB (l : List Tsk) : Bool := l.all fun t => decide (t.per ≤ 400)
theorem perB_drop (l : List Tsk) (k : Nat) (h : k < l.length) : perB (l.drop k) = (decide (l[k].per ≤ 400) && perB (l.drop (k + 1))) := by
  rw [List.drop_eq_getElem_cons h]
  unfold perB
  rw [List.all_cons]
end Go.Proofs.YteflgdnekflbbaaDoor
