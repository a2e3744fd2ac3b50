/- What an image that may be is like: plain, no program in sight. No condition. -/
import Derived.Test.YteflgdnekflbbaaDoorImgC
namespace Go.Proofs.YteflgdnekflbbaaDoor

theorem fbad_all {α : Type} (ok : Nat → α → Bool) : ∀ (l : List α) (i : Nat), firstBad ok i l = none → ∀ k, (hk : k < l.length) → ok (i + k) l[k] = true
  | [], _, _, k, hk => by simp at hk
  | a :: l, i, h, k, hk => by
    rw [firstBad] at h
    by_cases ho : ok i a = true
    · rw [if_pos ho] at h
      cases k with
      | zero => exact ho
      | succ k =>
        have := fbad_all ok l (i + 1) h k (by simpa using hk)
        rw [show i + 1 + k = i + (k + 1) by omega] at this
        simpa using this
    · rw [if_neg ho] at h; cases h
theorem fmode_all (all : Nat) : ∀ (l : List Mdd) (i : Nat), firstMode all i l = none → ∀ m ∈ l, mddErr all m = none
  | [], _, _, m, hm => by simp at hm
  | a :: l, i, h, m, hm => by
    rw [firstMode] at h
    cases ha : mddErr all a with
    | some e => rw [ha] at h; cases h
    | none =>
      rw [ha] at h
      rcases List.mem_cons.1 hm with rfl | hm
      · exact ha
      · exact fmode_all all l (i + 1) h m hm
structure RightI (x : Img) : Prop where
  res : 0 ≤ x.res ∧ x.res ≤ 8
  nt : 1 ≤ x.tasks.length ∧ x.tasks.length ≤ 16
  task : ∀ t ∈ x.tasks, tskOk t x.res = true
  nm : 1 ≤ x.modes.length ∧ x.modes.length ≤ 8
  mode : ∀ m ∈ x.modes, m.set ||| allSet x.tasks.length = allSet x.tasks.length ∧ quesOk m.qs = true
  ne : x.edges.length ≤ 24
  edge : ∀ k, (hk : k < x.edges.length) → edgOk x k x.edges[k] = true
theorem inR_iff {n a b : Int} : inR n a b = true ↔ a ≤ n ∧ n ≤ b := by unfold inR; simp
theorem right_of {x : Img} (h : (chkImg x).2 = 0) : RightI x := by
  unfold chkImg at h
  by_cases h1 : inR x.res 0 8 = false
  · rw [if_pos h1] at h; cases h
  rw [if_neg h1] at h
  by_cases h2 : inR x.tasks.length 1 16 = false
  · rw [if_pos h2] at h; cases h
  rw [if_neg h2] at h
  have q1 := inR_iff.1 (by simpa using h1 : inR x.res 0 8 = true)
  have q2 := inR_iff.1 (by simpa using h2 : inR x.tasks.length 1 16 = true)
  cases hb : firstBad (fun _ t => tskOk t x.res) 0 x.tasks with
  | some i => rw [hb] at h; cases h
  | none =>
    rw [hb] at h
    simp only [] at h
    by_cases h3 : inR x.modes.length 1 8 = false
    · rw [if_pos h3] at h; cases h
    rw [if_neg h3] at h
    have q3 := inR_iff.1 (by simpa using h3 : inR x.modes.length 1 8 = true)
    cases hm : firstMode (allSet x.tasks.length) 0 x.modes with
    | some p =>
      obtain ⟨i, e⟩ := p
      rw [hm] at h
      simp only [] at h
      have : ∀ (l : List Mdd) (i : Nat) p, firstMode (allSet x.tasks.length) i l = some p → p.2 ≠ 0 := by
        intro l
        induction l with
        | nil => intro i p hp; cases hp
        | cons a l ih =>
          intro i p hp
          rw [firstMode] at hp
          cases ha : mddErr (allSet x.tasks.length) a with
          | none => rw [ha] at hp; exact ih _ _ hp
          | some e =>
            rw [ha] at hp
            cases hp
            unfold mddErr at ha
            split at ha
            · split at ha
              · cases ha
              · cases ha; simp
            · cases ha; simp
      exact absurd h (this _ _ _ hm)
    | none =>
      rw [hm] at h
      simp only [] at h
      by_cases h4 : x.edges.length > 24
      · rw [if_pos h4] at h; cases h
      rw [if_neg h4] at h
      cases he : firstBad (fun i e => edgOk x i e) 0 x.edges with
      | some i => rw [he] at h; cases h
      | none =>
        refine ⟨q1, by omega, fun t ht => ?_, by omega, fun m hmm => ?_, by omega, fun k hk => ?_⟩
        · obtain ⟨k, hk, rfl⟩ := List.getElem_of_mem ht
          exact fbad_all _ _ 0 hb k hk
        · have := fmode_all _ _ 0 hm m hmm
          unfold mddErr at this
          split at this
          · rename_i hs
            split at this
            · rename_i hq; exact ⟨hs, hq⟩
            · cases this
          · cases this
        · have := fbad_all _ _ 0 he k hk
          simpa using this
theorem RightI.edgeIn {x : Img} (h : RightI x) (k : Nat) (hk : k < x.edges.length) : (0 ≤ x.edges[k].frm ∧ x.edges[k].frm < x.modes.length) ∧ (0 ≤ x.edges[k].to ∧ x.edges[k].to < x.modes.length) ∧ 1 ≤ x.edges[k].prot ∧ x.edges[k].prot ≤ 3 := by
  have := h.edge k hk
  unfold edgOk at this
  simp only [Bool.and_eq_true, inR_iff] at this
  obtain ⟨⟨⟨⟨⟨⟨a, b⟩, c⟩, d⟩, e⟩, f⟩, g⟩ := this
  have := h.nm
  omega
end Go.Proofs.YteflgdnekflbbaaDoor
