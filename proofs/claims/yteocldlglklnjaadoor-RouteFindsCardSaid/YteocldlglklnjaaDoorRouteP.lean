/- The ways that take the least time: rounds over all edges come to an end, and find the least. No program in sight. No condition. The ways that take the least time: till the mode is there, by which edges one comes. No program in sight. No condition. The ways that take the least time: the edge that comes last, whole ways. No program in sight. No condition. Which modes can be reached: by levels, by sets. No program in sight. No condition. The ways that take the least time: what is told of each mode, and the way that is found. No program in sight. Condition: no edge takes less than no time, or more than 2^30. -/
import Derived.Test.YteocldlglklnjaaDoorBase
namespace Go.Proofs.YteocldlglklnjaaDoor

/-- An edge: from, to, till the next change may begin, till the mode is there. -/
structure Eg where
  u : Nat
  v : Nat
  n : Int
  l : Int
def upd (t : Nat → Int) (v : Nat) (z : Int) : Nat → Int := fun a => if a = v then z else t a
theorem upd_same (t : Nat → Int) (v : Nat) (z : Int) : upd t v z v = z := if_pos rfl
theorem upd_ne (t : Nat → Int) {v a : Nat} (z : Int) (h : a ≠ v) : upd t v z a = t a := if_neg h
def rel (t : Nat → Int) (e : Eg) : Nat → Int := if t e.u + e.n < t e.v then upd t e.v (t e.u + e.n) else t
def round (es : List Eg) (t : Nat → Int) : Nat → Int := es.foldl rel t
def rounds (es : List Eg) (t : Nat → Int) : Nat → Nat → Int
  | 0 => t
  | k + 1 => round es (rounds es t k)
theorem rel_le (t : Nat → Int) (e : Eg) (a : Nat) : rel t e a ≤ t a := by
  unfold rel
  split
  · rename_i h
    by_cases ha : a = e.v
    · subst ha; rw [upd_same]; omega
    · rw [upd_ne _ _ ha]; exact Int.le_refl _
  · exact Int.le_refl _
theorem rel_done (t : Nat → Int) (e : Eg) : rel t e e.v ≤ t e.u + e.n := by
  unfold rel
  split
  · rw [upd_same]; exact Int.le_refl _
  · omega
theorem round_le : ∀ (es : List Eg) (t : Nat → Int) (a : Nat), round es t a ≤ t a
  | [], _t, _a => Int.le_refl _
  | e :: es, t, a => Int.le_trans (round_le es (rel t e) a) (rel_le t e a)
theorem round_done : ∀ (es : List Eg) (t : Nat → Int) (e : Eg), e ∈ es → round es t e.v ≤ t e.u + e.n
  | e' :: es, t, e, h => by
    rcases List.mem_cons.1 h with rfl | h
    · exact Int.le_trans (round_le es (rel t e) e.v) (rel_done t e)
    · have h1 := round_done es (rel t e') e h
      have h2 := rel_le t e' e.u
      show round es (rel t e') e.v ≤ _
      omega
theorem rounds_le (es : List Eg) (t : Nat → Int) (k a : Nat) : rounds es t (k + 1) a ≤ rounds es t k a := round_le es _ a
theorem rounds_mono (es : List Eg) (t : Nat → Int) (a : Nat) : ∀ {k j : Nat}, k ≤ j → rounds es t j a ≤ rounds es t k a
  | k, 0, h => by rw [show k = 0 by omega]; exact Int.le_refl _
  | k, j + 1, h => by
    rcases Nat.lt_or_ge j k with h1 | h1
    · rw [show k = j + 1 by omega]; exact Int.le_refl _
    · exact Int.le_trans (rounds_le es t j a) (rounds_mono es t a h1)

/-- A way. -/
inductive Way (es : List Eg) (s : Nat) : Nat → List Eg → Prop
  | nil : Way es s s []
  | snoc {p : List Eg} (e : Eg) : Way es s e.u p → e ∈ es → Way es s e.v (p ++ [e])
def cost (p : List Eg) : Int := (p.map Eg.n).sum
theorem cost_snoc (p : List Eg) (e : Eg) : cost (p ++ [e]) = cost p + e.n := by simp [cost]
theorem cost_pos {es : List Eg} (hn : ∀ e ∈ es, 0 ≤ e.n) {s v : Nat} {p : List Eg} (h : Way es s v p) : 0 ≤ cost p := by
  induction h with
  | nil => exact Int.le_refl _
  | snoc e _ he ih => rw [cost_snoc]; have := hn e he; omega
/-- Behind as many rounds as a way has edges, no more than it takes is told. -/
theorem rounds_way {es : List Eg} {s : Nat} {t : Nat → Int} (ht : t s ≤ 0) {v : Nat} {p : List Eg} (h : Way es s v p) : ∀ k, p.length ≤ k → rounds es t k v ≤ cost p := by
  induction h with
  | nil => intro k _; exact Int.le_trans (rounds_mono es t s (Nat.zero_le k)) ht
  | snoc e hw he ih =>
    intro k hk
    rw [List.length_append, List.length_cons, List.length_nil] at hk
    cases k with
    | zero => omega
    | succ k =>
      rw [cost_snoc]
      have h1 := round_done es (rounds es t k) e he
      have h2 := ih k (by omega)
      show round es (rounds es t k) e.v ≤ _
      omega
/-- What is told is what a way takes, or nothing. -/
def Sound (es : List Eg) (s : Nat) (F : Int) (t : Nat → Int) : Prop := ∀ v, t v ≤ F ∧ (t v < F → ∃ p, Way es s v p ∧ cost p = t v)
theorem sound_rel {es : List Eg} {s : Nat} {F : Int} {t : Nat → Int} (h : Sound es s F t) {e : Eg} (he : e ∈ es) (hn : 0 ≤ e.n) : Sound es s F (rel t e) := by
  intro v
  unfold rel
  split
  · rename_i hlt
    by_cases hv : v = e.v
    · subst hv
      rw [upd_same]
      have hF := (h e.v).1
      refine ⟨by omega, fun _ => ?_⟩
      obtain ⟨p, hp, hc⟩ := (h e.u).2 (by omega)
      exact ⟨p ++ [e], .snoc e hp he, by rw [cost_snoc, hc]⟩
    · rw [upd_ne _ _ hv]; exact h v
  · exact h v
theorem sound_round {es : List Eg} {s : Nat} {F : Int} (hn : ∀ e ∈ es, 0 ≤ e.n) : ∀ (l : List Eg) {t : Nat → Int}, (∀ e ∈ l, e ∈ es) → Sound es s F t → Sound es s F (round l t)
  | [], t, _, h => h
  | e :: l, t, hl, h => sound_round hn l (fun e' he' => hl e' (by simp [he'])) (sound_rel h (hl e (by simp)) (hn e (hl e (by simp))))
theorem sound_rounds {es : List Eg} {s : Nat} {F : Int} (hn : ∀ e ∈ es, 0 ≤ e.n) {t : Nat → Int} (h : Sound es s F t) : ∀ k, Sound es s F (rounds es t k)
  | 0 => h
  | k + 1 => sound_round hn es (fun _ he => he) (sound_rounds hn h k)
/-- A way is cut where it comes to a mode that it met. -/
theorem way_cut {es : List Eg} (hn : ∀ e ∈ es, 0 ≤ e.n) {s v : Nat} {p : List Eg} (h : Way es s v p) : ∀ a, a ∈ s :: p.map Eg.v → ∃ q r, p = q ++ r ∧ Way es s a q ∧ cost q ≤ cost p := by
  induction h with
  | nil =>
    intro a ha
    obtain rfl : a = s := by simpa using ha
    exact ⟨[], [], rfl, .nil, Int.le_refl _⟩
  | @snoc p e hw he ih =>
    intro a ha
    rw [List.map_append, ← List.cons_append, List.mem_append] at ha
    rcases ha with ha | ha
    · obtain ⟨q, r, e1, h1, h2⟩ := ih a ha
      refine ⟨q, r ++ [e], by rw [e1, List.append_assoc], h1, ?_⟩
      rw [cost_snoc]; have := hn e he; omega
    · obtain rfl : a = e.v := by simpa using ha
      exact ⟨p ++ [e], [], by simp, .snoc e hw he, Int.le_refl _⟩
theorem way_nodup {es : List Eg} (hn : ∀ e ∈ es, 0 ≤ e.n) {s v : Nat} {p : List Eg} (h : Way es s v p) : ∃ q, Way es s v q ∧ cost q ≤ cost p ∧ (s :: q.map Eg.v).Nodup := by
  induction h with
  | nil => exact ⟨[], .nil, Int.le_refl _, by simp⟩
  | @snoc p e hw he ih =>
    obtain ⟨q, h1, h2, h3⟩ := ih
    have h0 := hn e he
    by_cases hm : e.v ∈ s :: q.map Eg.v
    · obtain ⟨q1, r, e1, h4, h5⟩ := way_cut hn h1 e.v hm
      refine ⟨q1, h4, by rw [cost_snoc]; omega, ?_⟩
      rw [e1, List.map_append, ← List.cons_append] at h3
      exact (List.nodup_append.1 h3).1
    · refine ⟨q ++ [e], .snoc e h1 he, by rw [cost_snoc, cost_snoc]; omega, ?_⟩
      rw [List.map_append, ← List.cons_append, List.nodup_append]
      refine ⟨h3, by simp, fun a ha b hb => ?_⟩
      obtain rfl : b = e.v := by simpa using hb
      exact fun e' => hm (e' ▸ ha)
theorem nodup_le : ∀ (m : Nat) (l : List Nat), l.Nodup → (∀ a ∈ l, a < m) → l.length ≤ m
  | 0, l, _, h => by
    cases l with
    | nil => simp
    | cons a l => exact absurd (h a (by simp)) (Nat.not_lt_zero _)
  | m + 1, l, hd, h => by
    have h1 := nodup_le m (l.erase m) (hd.erase m) (fun a ha => by
      have h2 := List.mem_of_mem_erase ha
      have h3 := h a h2
      have h4 : a ≠ m := fun e => by subst e; exact (List.Nodup.not_mem_erase hd) ha
      omega)
    have h5 : l.length ≤ (l.erase m).length + 1 := by
      rw [List.length_erase]
      split <;> omega
    omega
theorem way_in {es : List Eg} {s M : Nat} (hs : s < M) (hv : ∀ e ∈ es, e.v < M) {v : Nat} {p : List Eg} (h : Way es s v p) : v < M ∧ (∀ a ∈ s :: p.map Eg.v, a < M) ∧ ∀ e ∈ p, e ∈ es := by
  induction h with
  | nil => exact ⟨hs, by simpa using hs, by simp⟩
  | snoc e _ he ih =>
    refine ⟨hv e he, fun a ha => ?_, fun e' he' => ?_⟩
    · rw [List.map_append, ← List.cons_append, List.mem_append] at ha
      rcases ha with ha | ha
      · exact ih.2.1 a ha
      · obtain rfl : a = e.v := by simpa using ha
        exact hv e he
    · rcases List.mem_append.1 he' with h1 | h1
      · exact ih.2.2 e' h1
      · obtain rfl : e' = e := by simpa using h1
        exact he
theorem way_short {es : List Eg} (hn : ∀ e ∈ es, 0 ≤ e.n) {s M : Nat} (hs : s < M) (hv : ∀ e ∈ es, e.v < M) {v : Nat} {p : List Eg} (h : Way es s v p) : ∃ q, Way es s v q ∧ cost q ≤ cost p ∧ q.length < M := by
  obtain ⟨q, h1, h2, h3⟩ := way_nodup hn h
  have h4 := nodup_le M _ h3 (way_in hs hv h1).2.1
  rw [List.length_cons, List.length_map] at h4
  exact ⟨q, h1, h2, h4⟩
/-- Behind as many rounds as there are modes, less one, nothing changes. -/
theorem rounds_end {es : List Eg} (hn : ∀ e ∈ es, 0 ≤ e.n) {s M : Nat} (hs : s < M) (hv : ∀ e ∈ es, e.v < M) {F : Int} {t : Nat → Int} (ht : t s = 0) (h : Sound es s F t) (m : Nat) (hm : M = m + 1) : round es (rounds es t m) = rounds es t m := by
  funext v
  have h1 := sound_rounds hn h m v
  have h2 := sound_rounds hn h (m + 1) v
  have h3 := rounds_le es t m v
  show rounds es t (m + 1) v = rounds es t m v
  by_cases hF : rounds es t (m + 1) v < F
  · obtain ⟨p, hp, hc⟩ := h2.2 hF
    obtain ⟨q, hq, hcq, hl⟩ := way_short hn hs hv hp
    have := rounds_way (t := t) (by omega) hq m (by omega)
    omega
  · omega
theorem fold_same {es : List Eg} {t : Nat → Int} (h : round es t = t) : ∀ (l1 l2 : List Eg), es = l1 ++ l2 → round l1 t = t ∧ ∀ e ∈ es, rel t e = t := by
  have hall : ∀ (l1 l2 : List Eg), es = l1 ++ l2 → round l1 t = t := by
    intro l1 l2 e
    funext a
    have h1 := round_le l1 t a
    have h2 := round_le l2 (round l1 t) a
    have h3 : round l2 (round l1 t) = t := by
      unfold round at h ⊢
      rw [e, List.foldl_append] at h
      exact h
    rw [h3] at h2
    omega
  intro l1 l2 e
  refine ⟨hall l1 l2 e, fun e' he' => ?_⟩
  obtain ⟨a, b, hab⟩ := List.append_of_mem he'
  have h1 := hall a (e' :: b) hab
  have h2 := hall (a ++ [e']) b (by rw [hab]; simp)
  unfold round at h1 h2
  rw [List.foldl_append, h1] at h2
  exact h2
end Go.Proofs.YteocldlglklnjaaDoor

namespace Go.Proofs.YteocldlglklnjaaDoor

/-! Till a mode is there. -/
def relH (p : (Nat → Int) × (Nat → Int)) (e : Eg) : (Nat → Int) × (Nat → Int) := (rel p.1 e, if p.1 e.u + e.l < p.2 e.v then upd p.2 e.v (p.1 e.u + e.l) else p.2)
def roundH (es : List Eg) (p : (Nat → Int) × (Nat → Int)) : (Nat → Int) × (Nat → Int) := es.foldl relH p
def roundsH (es : List Eg) (p : (Nat → Int) × (Nat → Int)) : Nat → (Nat → Int) × (Nat → Int)
  | 0 => p
  | k + 1 => roundH es (roundsH es p k)
theorem roundH_fst : ∀ (es : List Eg) (p : (Nat → Int) × (Nat → Int)), (roundH es p).1 = round es p.1
  | [], _ => rfl
  | e :: es, p => roundH_fst es (relH p e)
theorem roundsH_fst (es : List Eg) (p : (Nat → Int) × (Nat → Int)) : ∀ k, (roundsH es p k).1 = rounds es p.1 k
  | 0 => rfl
  | k + 1 => by
    show (roundH es _).1 = round es _
    rw [roundH_fst, roundsH_fst es p k]
theorem relH_le (p : (Nat → Int) × (Nat → Int)) (e : Eg) (a : Nat) : (relH p e).2 a ≤ p.2 a := by
  show (if p.1 e.u + e.l < p.2 e.v then upd p.2 e.v (p.1 e.u + e.l) else p.2) a ≤ p.2 a
  split
  · rename_i h
    by_cases ha : a = e.v
    · subst ha; rw [upd_same]; omega
    · rw [upd_ne _ _ ha]; exact Int.le_refl _
  · exact Int.le_refl _
theorem roundH_le : ∀ (es : List Eg) (p : (Nat → Int) × (Nat → Int)) (a : Nat), (roundH es p).2 a ≤ p.2 a
  | [], _, _a => Int.le_refl _
  | e :: es, p, a => Int.le_trans (roundH_le es (relH p e) a) (relH_le p e a)
/-- What is told at the end is no more than by any edge. -/
theorem roundH_done {D : Nat → Int} : ∀ (l : List Eg) (h : Nat → Int), (∀ e ∈ l, rel D e = D) → ∀ e ∈ l, (roundH l (D, h)).2 e.v ≤ D e.u + e.l
  | e' :: l, h, hD, e, he => by
    have e1 : relH (D, h) e' = (D, (relH (D, h) e').2) := by
      have := hD e' (by simp)
      unfold relH
      simp only
      rw [this]
    show (roundH l (relH (D, h) e')).2 e.v ≤ _
    rcases List.mem_cons.1 he with rfl | he
    · refine Int.le_trans (roundH_le l _ e.v) ?_
      show (if D e.u + e.l < h e.v then upd h e.v (D e.u + e.l) else h) e.v ≤ _
      split
      · rw [upd_same]; exact Int.le_refl _
      · omega
    · rw [e1]
      exact roundH_done l _ (fun e2 h2 => hD e2 (by simp [h2])) e he
/-- What is told was told at first, or is no less than by an edge. -/
def LowH (es : List Eg) (D h0 : Nat → Int) (p : (Nat → Int) × (Nat → Int)) : Prop := (∀ v, D v ≤ p.1 v) ∧ ∀ v, p.2 v = h0 v ∨ ∃ e ∈ es, e.v = v ∧ D e.u + e.l ≤ p.2 v
theorem low_rel {D t : Nat → Int} (h : ∀ v, D v ≤ t v) {e : Eg} (hD : rel D e = D) : ∀ v, D v ≤ rel t e v := by
  intro v
  have h1 := rel_done D e
  rw [hD] at h1
  unfold rel
  split
  · by_cases hv : v = e.v
    · subst hv; rw [upd_same]; have := h e.u; omega
    · rw [upd_ne _ _ hv]; exact h v
  · exact h v
theorem lowH_round {es : List Eg} {D h0 : Nat → Int} (hD : ∀ e ∈ es, rel D e = D) : ∀ (l : List Eg) (p : (Nat → Int) × (Nat → Int)), (∀ e ∈ l, e ∈ es) → LowH es D h0 p → LowH es D h0 (roundH l p)
  | [], _, _, h => h
  | e :: l, p, hl, h => by
    refine lowH_round hD l (relH p e) (fun e' he' => hl e' (by simp [he'])) ⟨low_rel h.1 (hD e (hl e (by simp))), fun v => ?_⟩
    show (if p.1 e.u + e.l < p.2 e.v then upd p.2 e.v (p.1 e.u + e.l) else p.2) v = h0 v ∨ ∃ e' ∈ es, e'.v = v ∧ D e'.u + e'.l ≤ (if p.1 e.u + e.l < p.2 e.v then upd p.2 e.v (p.1 e.u + e.l) else p.2) v
    split
    · by_cases hv : v = e.v
      · subst hv
        rw [upd_same]
        exact .inr ⟨e, hl e (by simp), rfl, by have := h.1 e.u; omega⟩
      · rw [upd_ne _ _ hv]; exact h.2 v
    · exact h.2 v
theorem lowH_rounds {es : List Eg} {D h0 : Nat → Int} (hD : ∀ e ∈ es, rel D e = D) {p : (Nat → Int) × (Nat → Int)} (h : LowH es D h0 p) : ∀ k, LowH es D h0 (roundsH es p k)
  | 0 => h
  | k + 1 => lowH_round hD es _ (fun _ he => he) (lowH_rounds hD h k)

/-! By which edges one comes. -/
def updB (b : Nat → Option Nat) (v i : Nat) : Nat → Option Nat := fun a => if a = v then some i else b a
theorem updB_same (b : Nat → Option Nat) (v i : Nat) : updB b v i v = some i := if_pos rfl
theorem updB_ne (b : Nat → Option Nat) {v a : Nat} (i : Nat) (h : a ≠ v) : updB b v i a = b a := if_neg h
def relB (p : (Nat → Int) × (Nat → Option Nat)) (ie : Nat × Eg) : (Nat → Int) × (Nat → Option Nat) :=
  if p.1 ie.2.u + ie.2.n < p.1 ie.2.v then (upd p.1 ie.2.v (p.1 ie.2.u + ie.2.n), updB p.2 ie.2.v ie.1) else p
theorem relB_fst (p : (Nat → Int) × (Nat → Option Nat)) (ie : Nat × Eg) : (relB p ie).1 = rel p.1 ie.2 := by
  unfold relB rel
  split <;> rfl
/-- The chain of edges by which one comes. -/
inductive Ch (es : List Eg) (b : Nat → Option Nat) : Nat → List Nat → Prop
  | nil {v : Nat} : b v = none → Ch es b v []
  | snoc {v i : Nat} {e : Eg} {l : List Nat} : b v = some i → es[i]? = some e → Ch es b e.u l → Ch es b v (l ++ [i])
structure ByOk (es : List Eg) (s : Nat) (F : Int) (p : (Nat → Int) × (Nat → Option Nat)) : Prop where
  pos : ∀ v, 0 ≤ p.1 v
  zero : p.1 s = 0
  start : p.2 s = none
  le : ∀ v, p.1 v ≤ F
  no : ∀ v, p.2 v = none → v = s ∨ p.1 v = F
  yes : ∀ v i, p.2 v = some i → ∃ e, es[i]? = some e ∧ e.v = v ∧ p.1 e.u + e.n ≤ p.1 v
  ch : ∀ v, ∃ l, Ch es p.2 v l
theorem ch_upd {es : List Eg} {s : Nat} {F : Int} {p : (Nat → Int) × (Nat → Option Nat)} (h : ByOk es s F p) (hn : ∀ e ∈ es, 0 ≤ e.n) {v i : Nat} {a : Nat} {l : List Nat} (hc : Ch es p.2 a l) : p.1 a < p.1 v → Ch es (updB p.2 v i) a l := by
  induction hc with
  | nil hb => intro ha; exact .nil (by rw [updB_ne _ _ (fun e => by subst e; omega)]; exact hb)
  | @snoc a j e l hb he _ ih =>
    intro ha
    obtain ⟨e', he', _, hle⟩ := h.yes a j hb
    rw [he] at he'
    injection he' with he'
    subst he'
    have hne := hn e (List.mem_of_getElem? he)
    exact .snoc (by rw [updB_ne _ _ (fun e => by subst e; omega)]; exact hb) he (ih (by omega))
theorem byOk_rel {es : List Eg} {s : Nat} {F : Int} {p : (Nat → Int) × (Nat → Option Nat)} (h : ByOk es s F p) (hn : ∀ e ∈ es, 0 ≤ e.n) {i : Nat} {e : Eg} (he : es[i]? = some e) : ByOk es s F (relB p (i, e)) := by
  unfold relB
  split
  · rename_i hlt
    simp only at hlt
    have hne := hn e (List.mem_of_getElem? he)
    have hu := h.pos e.u
    have hvs : s ≠ e.v := fun hh => by have := h.zero; rw [hh] at this; omega
    obtain ⟨lu, hlu⟩ := h.ch e.u
    have hcu := ch_upd h hn (v := e.v) (i := i) hlu (by omega)
    have hcv : Ch es (updB p.2 e.v i) e.v (lu ++ [i]) := .snoc (updB_same _ _ _) he hcu
    have hFv := h.le e.v
    refine ⟨fun v => ?_, ?_, ?_, fun v => ?_, fun v hv => ?_, fun v j hv => ?_, fun v => ?_⟩
    · show 0 ≤ upd p.1 e.v (p.1 e.u + e.n) v
      by_cases hh : v = e.v
      · subst hh; rw [upd_same]; omega
      · rw [upd_ne _ _ hh]; exact h.pos v
    · show upd p.1 e.v (p.1 e.u + e.n) s = 0
      rw [upd_ne _ _ hvs]; exact h.zero
    · show updB p.2 e.v i s = none
      rw [updB_ne _ _ hvs]; exact h.start
    · show upd p.1 e.v (p.1 e.u + e.n) v ≤ F
      by_cases hh : v = e.v
      · subst hh; rw [upd_same]; omega
      · rw [upd_ne _ _ hh]; exact h.le v
    · have hv : updB p.2 e.v i v = none := hv
      have hh : v ≠ e.v := fun hh => by subst hh; rw [updB_same] at hv; cases hv
      rw [updB_ne _ _ hh] at hv
      show v = s ∨ upd p.1 e.v (p.1 e.u + e.n) v = F
      rw [upd_ne _ _ hh]
      exact h.no v hv
    · have hv : updB p.2 e.v i v = some j := hv
      show ∃ e', es[j]? = some e' ∧ e'.v = v ∧ upd p.1 e.v (p.1 e.u + e.n) e'.u + e'.n ≤ upd p.1 e.v (p.1 e.u + e.n) v
      by_cases hh : v = e.v
      · subst hh
        rw [updB_same] at hv
        injection hv with hv
        subst hv
        refine ⟨e, he, rfl, ?_⟩
        rw [upd_same]
        by_cases hu2 : e.u = e.v
        · rw [hu2] at hlt; omega
        · rw [upd_ne _ _ hu2]; exact Int.le_refl _
      · rw [updB_ne _ _ hh] at hv
        obtain ⟨e', h1, h2, h3⟩ := h.yes v j hv
        refine ⟨e', h1, h2, ?_⟩
        rw [upd_ne (a := v) _ _ hh]
        by_cases hu2 : e'.u = e.v
        · rw [hu2, upd_same]; rw [hu2] at h3; omega
        · rw [upd_ne _ _ hu2]; exact h3
    · show ∃ l, Ch es (updB p.2 e.v i) v l
      obtain ⟨l, hl⟩ := h.ch v
      clear hFv
      induction hl with
      | @nil a hb =>
        by_cases hh : a = e.v
        · subst hh; exact ⟨_, hcv⟩
        · exact ⟨[], .nil (by rw [updB_ne _ _ hh]; exact hb)⟩
      | @snoc a j e' l hb he' _ ih =>
        by_cases hh : a = e.v
        · subst hh; exact ⟨_, hcv⟩
        · obtain ⟨l', hl'⟩ := ih
          exact ⟨l' ++ [j], .snoc (by rw [updB_ne _ _ hh]; exact hb) he' hl'⟩
  · exact h
/-- At the end the chain is a way that takes what is told. -/
theorem ch_way {es : List Eg} {s : Nat} {F : Int} {p : (Nat → Int) × (Nat → Option Nat)} (h : ByOk es s F p) (hn : ∀ e ∈ es, 0 ≤ e.n) (hD : ∀ e ∈ es, rel p.1 e = p.1) {v : Nat} {l : List Nat} (hc : Ch es p.2 v l) : p.1 v < F → ∃ q, Way es s v q ∧ l.map (fun i => es[i]?) = q.map some ∧ cost q = p.1 v := by
  induction hc with
  | @nil v hb =>
    intro hv
    rcases h.no v hb with rfl | h1
    · exact ⟨[], .nil, rfl, h.zero.symm⟩
    · omega
  | @snoc v i e l hb he _ ih =>
    intro hv
    obtain ⟨e', he', hev, hle⟩ := h.yes v i hb
    rw [he] at he'
    injection he' with he'
    subst he'
    have hm := List.mem_of_getElem? he
    have h0 := hn e hm
    obtain ⟨q, h1, h2, h3⟩ := ih (by omega)
    have h4 := rel_done p.1 e
    rw [hD e hm] at h4
    subst hev
    refine ⟨q ++ [e], .snoc e h1 hm, ?_, ?_⟩
    · rw [List.map_append, List.map_append, h2]; simp [he]
    · rw [cost_snoc, h3]; omega
end Go.Proofs.YteocldlglklnjaaDoor

namespace Go.Proofs.YteocldlglklnjaaDoor

/-- Of the first k edges that come to a mode the one by which it takes the least. -/
def bestK (es : List Eg) (D : Nat → Int) (F : Int) (to : Nat) : Nat → Int × Option Nat
  | 0 => (F, none)
  | k + 1 => match es[k]? with
    | some e => if e.v = to ∧ D e.u + e.l < (bestK es D F to k).1 then (D e.u + e.l, some k) else bestK es D F to k
    | none => bestK es D F to k
theorem bestK_spec (es : List Eg) (D : Nat → Int) (F : Int) (to : Nat) : ∀ k, (bestK es D F to k).1 ≤ F ∧ (∀ (i : Nat) e, i < k → es[i]? = some e → e.v = to → (bestK es D F to k).1 ≤ D e.u + e.l) ∧
    (((bestK es D F to k).2 = none ∧ (bestK es D F to k).1 = F) ∨ ∃ i e, (bestK es D F to k).2 = some i ∧ i < k ∧ es[i]? = some e ∧ e.v = to ∧ (bestK es D F to k).1 = D e.u + e.l ∧ (bestK es D F to k).1 < F)
  | 0 => ⟨Int.le_refl _, fun i e h => absurd h (Nat.not_lt_zero _), .inl ⟨rfl, rfl⟩⟩
  | k + 1 => by
    obtain ⟨h1, h2, h3⟩ := bestK_spec es D F to k
    cases he : es[k]? with
    | none =>
      have e1 : bestK es D F to (k + 1) = bestK es D F to k := by rw [bestK, he]
      rw [e1]
      refine ⟨h1, fun i e hi hie hv => ?_, ?_⟩
      · rcases Nat.lt_or_ge i k with h | h
        · exact h2 i e h hie hv
        · rw [show i = k by omega, he] at hie; cases hie
      · rcases h3 with h3 | ⟨i, e, a, b, c⟩
        · exact .inl h3
        · exact .inr ⟨i, e, a, by omega, c⟩
    | some e0 =>
      by_cases hc : e0.v = to ∧ D e0.u + e0.l < (bestK es D F to k).1
      · have e1 : bestK es D F to (k + 1) = (D e0.u + e0.l, some k) := by rw [bestK, he]; exact if_pos hc
        rw [e1]
        refine ⟨by show D e0.u + e0.l ≤ F; omega, fun i e hi hie hv => ?_, .inr ⟨k, e0, rfl, by omega, he, hc.1, rfl, by show D e0.u + e0.l < F; omega⟩⟩
        show D e0.u + e0.l ≤ _
        rcases Nat.lt_or_ge i k with h | h
        · have := h2 i e h hie hv; omega
        · rw [show i = k by omega, he] at hie
          injection hie with hie
          subst hie; exact Int.le_refl _
      · have e1 : bestK es D F to (k + 1) = bestK es D F to k := by rw [bestK, he]; exact if_neg hc
        rw [e1]
        refine ⟨h1, fun i e hi hie hv => ?_, ?_⟩
        · rcases Nat.lt_or_ge i k with h | h
          · exact h2 i e h hie hv
          · rw [show i = k by omega, he] at hie
            injection hie with hie
            subst hie
            omega
        · rcases h3 with h3 | ⟨i, e, a, b, c⟩
          · exact .inl h3
          · exact .inr ⟨i, e, a, by omega, c⟩
/-- What is least by the last edge is what is told of the mode. -/
theorem best_there {es : List Eg} {s : Nat} {F : Int} {D h0 H : Nat → Int} {to : Nat} (hto : to ≠ s) (h0F : ∀ v, v ≠ s → h0 v = F) (hle : ∀ e ∈ es, H e.v ≤ D e.u + e.l) (hlo : ∀ v, H v = h0 v ∨ ∃ e ∈ es, e.v = v ∧ D e.u + e.l ≤ H v) (hF : ∀ v, H v ≤ h0 v) :
    (bestK es D F to es.length).1 = H to := by
  obtain ⟨h1, h2, h3⟩ := bestK_spec es D F to es.length
  have hz := h0F to hto
  have hHF := hF to
  have hb : (bestK es D F to es.length).1 ≤ H to := by
    rcases hlo to with h | ⟨e, he, hv, hl⟩
    · omega
    · obtain ⟨i, hi, hie⟩ := List.getElem_of_mem he
      have := h2 i e hi (by rw [List.getElem?_eq_getElem hi, hie]) hv
      omega
  rcases h3 with ⟨_, h3⟩ | ⟨i, e, _, _, he, hv, h4, h5⟩
  · omega
  · have := hle e (List.mem_of_getElem? he)
    rw [hv] at this
    omega
/-- Does a row of edges lead from a mode to another one? The last one counts till the mode is there. -/
def leads (es : List Eg) : Nat → Int → List Nat → Option (Nat × Int)
  | at_, z, [] => some (at_, z)
  | at_, z, i :: l => match es[i]? with
    | none => none
    | some e => if e.u = at_ then leads es e.v (z + (if l = [] then e.l else e.n)) l else none
theorem leads_way {es : List Eg} {s : Nat} {z : Int} {i : Nat} {e : Eg} (_he : es[i]? = some e) : ∀ {v : Nat} {q : List Eg} (_ : Way es s v q) (l r : List Nat), l.map (fun i => es[i]?) = q.map some → r ≠ [] → leads es s z (l ++ r) = leads es v (z + cost q) r := by
  intro v q h
  induction h with
  | nil =>
    intro l r hl hr
    have : l = [] := by simpa using hl
    subst this
    simp [cost]
  | @snoc q e1 hw hm ih =>
    intro l r hl hr
    rw [List.map_append] at hl
    obtain ⟨l1, l2, rfl, h1, h2⟩ := List.map_eq_append_iff.1 hl
    obtain ⟨j, rfl⟩ : ∃ j, l2 = [j] := by
      cases l2 with
      | nil => simp at h2
      | cons j l2 => cases l2 with
        | nil => exact ⟨j, rfl⟩
        | cons _ _ => simp at h2
    have hj : es[j]? = some e1 := by simpa using h2
    rw [List.append_assoc, ih l1 ([j] ++ r) h1 (by simp)]
    show leads es e1.u (z + cost q) (j :: r) = _
    rw [leads, hj]
    show (if e1.u = e1.u then leads es e1.v (z + cost q + (if r = [] then e1.l else e1.n)) r else none) = _
    rw [if_pos rfl, if_neg hr, cost_snoc, ← Int.add_assoc]
/-- The whole way: the chain, then the last edge. -/
theorem leads_all {es : List Eg} {s : Nat} {q : List Eg} {l : List Nat} {i : Nat} {e : Eg} (he : es[i]? = some e) (h : Way es s e.u q) (hl : l.map (fun i => es[i]?) = q.map some) : leads es s 0 (l ++ [i]) = some (e.v, cost q + e.l) := by
  rw [leads_way he h l [i] hl (by simp), leads, he]
  show (if e.u = e.u then leads es e.v (0 + cost q + (if ([] : List Nat) = [] then e.l else e.n)) [] else none) = _
  rw [if_pos rfl, if_pos rfl, leads, Int.zero_add]
end Go.Proofs.YteocldlglklnjaaDoor

namespace Go.Proofs.YteocldlglklnjaaDoor

def Gets (es : List Eg) (s v : Nat) : Prop := ∃ p, Way es s v p
theorem Gets.step {es : List Eg} {s : Nat} {e : Eg} (h : Gets es s e.u) (he : e ∈ es) : Gets es s e.v := by
  obtain ⟨p, hp⟩ := h
  exact ⟨_, .snoc e hp he⟩
/-- What holds of the start, and goes along edges, holds of all that can be reached. -/
theorem Gets.ind {es : List Eg} {s : Nat} {P : Nat → Prop} (h0 : P s) (h1 : ∀ e ∈ es, P e.u → P e.v) {v : Nat} (h : Gets es s v) : P v := by
  obtain ⟨p, hp⟩ := h
  induction hp with
  | nil => exact h0
  | snoc e _ he ih => exact h1 e he ih

/-! By levels. -/
def lev (n : Int) (o : Nat → Int) (e : Eg) : Nat → Int := if o e.u = n ∧ o e.v < 0 then upd o e.v (n + 1) else o
def levelL (es : List Eg) (n : Int) (o : Nat → Int) : Nat → Int := es.foldl (lev n) o
def levels (es : List Eg) (o : Nat → Int) : Nat → Nat → Int
  | 0 => o
  | k + 1 => levelL es (k : Int) (levels es o k)
structure LevOk (es : List Eg) (s : Nat) (k : Nat) (o : Nat → Int) : Prop where
  val : ∀ v, o v = -1 ∨ (0 ≤ o v ∧ o v ≤ (k : Int) ∧ Gets es s v)
  cl : ∀ e ∈ es, 0 ≤ o e.u → o e.u < (k : Int) → 0 ≤ o e.v
  up : ∀ v (j : Nat), o v = (j : Int) + 1 → ∃ u, o u = (j : Int)
  st : o s = 0
/-- In the midst of a level: the edges of l are done. -/
structure LevIn (es : List Eg) (s : Nat) (k : Nat) (l : List Eg) (o : Nat → Int) : Prop where
  val : ∀ v, o v = -1 ∨ (0 ≤ o v ∧ o v ≤ (k : Int) + 1 ∧ Gets es s v)
  cl : ∀ e ∈ es, 0 ≤ o e.u → o e.u < (k : Int) → 0 ≤ o e.v
  dn : ∀ e ∈ l, o e.u = (k : Int) → 0 ≤ o e.v
  up : ∀ v (j : Nat), o v = (j : Int) + 1 → ∃ u, o u = (j : Int)
  st : o s = 0
theorem lev_in {es : List Eg} {s k : Nat} {l : List Eg} {o : Nat → Int} (h : LevIn es s k l o) {e : Eg} (he : e ∈ es) : LevIn es s k (l ++ [e]) (lev (k : Int) o e) := by
  unfold lev
  by_cases hc : o e.u = (k : Int) ∧ o e.v < 0
  · rw [if_pos hc]
    obtain ⟨h1, h2⟩ := hc
    have hg : Gets es s e.v := by
      rcases h.val e.u with h3 | h3
      · omega
      · exact h3.2.2.step he
    have keep : ∀ a, 0 ≤ o a → upd o e.v ((k : Int) + 1) a = o a := fun a ha => upd_ne _ _ (fun hh => by subst hh; omega)
    have mono : ∀ a, 0 ≤ o a → 0 ≤ upd o e.v ((k : Int) + 1) a := fun a ha => by rw [keep a ha]; exact ha
    refine ⟨fun v => ?_, fun e' he' => ?_, fun e' he' => ?_, fun v j => ?_, ?_⟩
    · by_cases hv : v = e.v
      · subst hv; rw [upd_same]; exact .inr ⟨by omega, by omega, hg⟩
      · rw [upd_ne _ _ hv]; exact h.val v
    · intro h3 h4
      by_cases hu : e'.u = e.v
      · rw [hu, upd_same] at h4; omega
      · rw [upd_ne _ _ hu] at h3 h4
        exact mono _ (h.cl e' he' h3 h4)
    · intro h3
      by_cases hu : e'.u = e.v
      · rw [hu, upd_same] at h3; omega
      · rw [upd_ne _ _ hu] at h3
        rcases List.mem_append.1 he' with h4 | h4
        · exact mono _ (h.dn e' h4 h3)
        · obtain rfl : e' = e := by simpa using h4
          rw [upd_same]; omega
    · intro h3
      by_cases hv : v = e.v
      · subst hv
        rw [upd_same] at h3
        exact ⟨e.u, by rw [keep e.u (by omega)]; omega⟩
      · rw [upd_ne _ _ hv] at h3
        obtain ⟨u, hu⟩ := h.up v j h3
        exact ⟨u, by rw [keep u (by omega)]; exact hu⟩
    · rw [keep s (by have := h.st; omega)]; exact h.st
  · rw [if_neg hc]
    refine ⟨h.val, h.cl, fun e' he' h3 => ?_, h.up, h.st⟩
    rcases List.mem_append.1 he' with h4 | h4
    · exact h.dn e' h4 h3
    · obtain rfl : e' = e := by simpa using h4
      omega
theorem level_in {es : List Eg} {s k : Nat} : ∀ (l2 l1 : List Eg) {o : Nat → Int}, (∀ e ∈ l2, e ∈ es) → LevIn es s k l1 o → LevIn es s k (l1 ++ l2) (levelL l2 (k : Int) o)
  | [], l1, o, _, h => by rw [List.append_nil]; exact h
  | e :: l2, l1, o, hl, h => by
    have := level_in l2 (l1 ++ [e]) (fun e' he' => hl e' (by simp [he'])) (lev_in h (hl e (by simp)))
    rw [List.append_assoc] at this
    exact this
theorem level_ok {es : List Eg} {s k : Nat} {o : Nat → Int} (h : LevOk es s k o) : LevOk es s (k + 1) (levelL es (k : Int) o) := by
  have h0 : LevIn es s k [] o := ⟨fun v => by
    rcases h.val v with h1 | h1
    · exact .inl h1
    · exact .inr ⟨h1.1, by omega, h1.2.2⟩, h.cl, fun e he => absurd he (by simp), h.up, h.st⟩
  have h1 := level_in es [] (fun _ he => he) h0
  rw [List.nil_append] at h1
  refine ⟨fun v => ?_, fun e he h2 h3 => ?_, h1.up, h1.st⟩
  · rcases h1.val v with h2 | h2
    · exact .inl h2
    · exact .inr ⟨h2.1, by push_cast; omega, h2.2.2⟩
  · rcases Int.lt_or_le (levelL es (k : Int) o e.u) (k : Int) with h4 | h4
    · exact h1.cl e he h2 h4
    · exact h1.dn e he (by push_cast at h3; omega)
theorem levels_ok {es : List Eg} {s : Nat} {o : Nat → Int} (h : LevOk es s 0 o) : ∀ k, LevOk es s k (levels es o k)
  | 0 => h
  | k + 1 => level_ok (levels_ok h k)
theorem lev_down {o : Nat → Int} (hup : ∀ v (j : Nat), o v = (j : Int) + 1 → ∃ u, o u = (j : Int)) : ∀ (k : Nat), (∃ v, o v = (k : Int)) → ∃ l : List Nat, l.length = k + 1 ∧ l.Nodup ∧ (∀ a ∈ l, 0 ≤ o a ∧ o a ≤ (k : Int))
  | 0, ⟨v, hv⟩ => ⟨[v], rfl, by simp, fun a ha => by obtain rfl : a = v := by simpa using ha
                                                     exact ⟨by omega, by omega⟩⟩
  | k + 1, ⟨v, hv⟩ => by
    push_cast at hv
    obtain ⟨l, h1, h2, h3⟩ := lev_down hup k (hup v k hv)
    refine ⟨v :: l, by simp [h1], ?_, fun a ha => ?_⟩
    · rw [List.nodup_cons]
      exact ⟨fun hm => by have := (h3 v hm).2; omega, h2⟩
    · rcases List.mem_cons.1 ha with rfl | ha
      · exact ⟨by omega, by push_cast; omega⟩
      · have := h3 a ha
        exact ⟨this.1, by push_cast; omega⟩
/-- By as many levels as there are modes all are found that can be reached. -/
theorem levels_all {es : List Eg} {s M : Nat} (hs : s < M) (hv : ∀ e ∈ es, e.v < M) {o : Nat → Int} (h : LevOk es s M o) (v : Nat) : (0 ≤ o v ↔ Gets es s v) := by
  refine ⟨fun h1 => ?_, fun hg => ?_⟩
  · rcases h.val v with h2 | h2
    · omega
    · exact h2.2.2
  · have hlt : ∀ a, 0 ≤ o a → o a < (M : Int) := fun a ha => by
      rcases Int.lt_or_le (o a) (M : Int) with h1 | h1
      · exact h1
      · exfalso
        have h2 : o a = (M : Int) := by
          rcases h.val a with h3 | h3 <;> omega
        obtain ⟨l, l1, l2, l3⟩ := lev_down h.up M ⟨a, h2⟩
        have := nodup_le M l l2 (fun b hb => by
          rcases h.val b with h4 | h4
          · have := (l3 b hb).1; omega
          · obtain ⟨p, hp⟩ := h4.2.2
            exact (way_in hs hv hp).1)
        omega
    exact Gets.ind (P := fun v => 0 ≤ o v) (by have := h.st; omega) (fun e he hu => h.cl e he hu (hlt _ hu)) hg
theorem levels_start (es : List Eg) (s : Nat) : LevOk es s 0 (upd (fun _ => -1) s 0) := by
  refine ⟨fun v => ?_, fun e _ h1 h2 => by push_cast at h2; omega, fun v j hj => ?_, upd_same _ _ _⟩
  · by_cases hv : v = s
    · subst hv; rw [upd_same]; exact .inr ⟨by omega, by omega, [], .nil⟩
    · rw [upd_ne _ _ hv]; exact .inl rfl
  · by_cases hv : v = s
    · subst hv; rw [upd_same] at hj; omega
    · rw [upd_ne _ _ hv] at hj; omega

/-! By sets. -/
structure SetOk (es : List Eg) (s : Nat) (all fresh : Nat) : Prop where
  st : all.testBit s = true
  yes : ∀ v, all.testBit v = true → Gets es s v
  sub : ∀ v, fresh.testBit v = true → all.testBit v = true
  cl : ∀ e ∈ es, all.testBit e.u = true → fresh.testBit e.u = false → all.testBit e.v = true
theorem setOk_step {es : List Eg} {s all fresh found fresh2 all2 : Nat} (h : SetOk es s all fresh) (hf : ∀ v, found.testBit v = true ↔ ∃ e ∈ es, e.v = v ∧ fresh.testBit e.u = true) (h2 : ∀ v, fresh2.testBit v = (found.testBit v && !all.testBit v)) (h3 : ∀ v, all2.testBit v = (all.testBit v || fresh2.testBit v)) : SetOk es s all2 fresh2 := by
  refine ⟨by rw [h3, h.st]; rfl, fun v hv => ?_, fun v hv => by rw [h3, hv, Bool.or_true], fun e he hu hn => ?_⟩
  · rw [h3, Bool.or_eq_true] at hv
    rcases hv with hv | hv
    · exact h.yes v hv
    · rw [h2, Bool.and_eq_true] at hv
      obtain ⟨e, he, rfl, hu⟩ := (hf v).1 hv.1
      exact (h.yes _ (h.sub _ hu)).step he
  · rw [h3, hn, Bool.or_false] at hu
    rw [h3, h2]
    cases hfu : fresh.testBit e.u with
    | false => rw [h.cl e he hu hfu]; rfl
    | true =>
      have := (hf e.v).2 ⟨e, he, rfl, hfu⟩
      rw [this]
      cases all.testBit e.v <;> rfl
theorem setOk_end {es : List Eg} {s all : Nat} (h : SetOk es s all 0) (v : Nat) : (all.testBit v = true ↔ Gets es s v) :=
  ⟨h.yes v, fun hg => Gets.ind (P := fun v => all.testBit v = true) h.st (fun e he hu => h.cl e he hu (Nat.zero_testBit _)) hg⟩
end Go.Proofs.YteocldlglklnjaaDoor

namespace Go.Proofs.YteocldlglklnjaaDoor

def farR : Int := 1099511627776
def t0R (s : Nat) : Nat → Int := upd (fun _ => farR) s 0
def b0R : Nat → Option Nat := fun _ => none
theorem t0R_start (s : Nat) : t0R s s = 0 := upd_same _ _ _
theorem t0R_ne {s v : Nat} (h : v ≠ s) : t0R s v = farR := upd_ne _ _ h
structure EsOk (es : List Eg) (M : Nat) : Prop where
  u : ∀ e ∈ es, e.u < M
  v : ∀ e ∈ es, e.v < M
  n : ∀ e ∈ es, 0 ≤ e.n ∧ e.n ≤ 1073741824
  l : ∀ e ∈ es, 0 ≤ e.l ∧ e.l ≤ 1073741824
theorem t0R_sound (es : List Eg) (s : Nat) : Sound es s farR (t0R s) := by
  intro v
  unfold t0R
  by_cases hv : v = s
  · subst hv; rw [upd_same]; exact ⟨by unfold farR; omega, fun _ => ⟨[], .nil, rfl⟩⟩
  · rw [upd_ne _ _ hv]; exact ⟨Int.le_refl _, fun h => by omega⟩
theorem byOk_start (es : List Eg) (s : Nat) : ByOk es s farR (t0R s, b0R) := by
  have h0 : (t0R s, b0R).1 = t0R s := rfl
  refine ⟨fun v => ?_, t0R_start s, rfl, fun v => (t0R_sound es s v).1, fun v _ => ?_, fun v i h => (by cases h), fun v => ⟨[], .nil rfl⟩⟩
  · rw [h0]
    by_cases hv : v = s
    · subst hv; rw [t0R_start]; exact Int.le_refl _
    · rw [t0R_ne hv]; unfold farR; omega
  · by_cases hv : v = s
    · exact .inl hv
    · exact .inr (t0R_ne hv)
/-- What is told at the end. -/
def DR (es : List Eg) (s M : Nat) : Nat → Int := rounds es (t0R s) M
def HR (es : List Eg) (s M : Nat) : Nat → Int := (roundsH es (t0R s, t0R s) M).2
theorem dr_fix {es : List Eg} {s M : Nat} (h : EsOk es M) (hs : s < M) : (∀ e ∈ es, rel (DR es s M) e = DR es s M) ∧ ∃ m, M = m + 1 ∧ rounds es (t0R s) m = DR es s M := by
  obtain ⟨m, rfl⟩ : ∃ m, M = m + 1 := ⟨M - 1, by omega⟩
  have h1 := rounds_end (fun e he => (h.n e he).1) hs h.v (upd_same _ _ _) (t0R_sound es s) m rfl
  have h2 : DR es s (m + 1) = rounds es (t0R s) m := h1
  have h3 : round es (DR es s (m + 1)) = DR es s (m + 1) := by rw [h2]; exact h1
  exact ⟨(fold_same h3 es [] (by simp)).2, m, rfl, h2.symm⟩
theorem cost_le {es : List Eg} {M : Nat} (h : EsOk es M) : ∀ (p : List Eg), (∀ e ∈ p, e ∈ es) → cost p ≤ 1073741824 * (p.length : Int)
  | [], _ => by simp [cost]
  | e :: p, hp => by
    have h1 := cost_le h p (fun e' he' => hp e' (by simp [he']))
    have h2 := (h.n e (hp e (by simp))).2
    have : cost (e :: p) = e.n + cost p := by simp [cost]
    rw [this, List.length_cons]
    push_cast
    omega
/-- A mode is told of just if it can be reached. -/
theorem dr_gets {es : List Eg} {s M : Nat} (h : EsOk es M) (hs : s < M) (hM : M ≤ 100) (v : Nat) : DR es s M v ≤ farR ∧ 0 ≤ DR es s M v ∧ (DR es s M v < farR ↔ Gets es s v) ∧ (Gets es s v → DR es s M v ≤ 107374182400) := by
  have hso := sound_rounds (fun e he => (h.n e he).1) (t0R_sound es s) M v
  have hsh : Gets es s v → DR es s M v ≤ 107374182400 := fun ⟨p, hp⟩ => by
    obtain ⟨q, hq, _, hl⟩ := way_short (fun e he => (h.n e he).1) hs h.v hp
    have h1 := rounds_way (t := t0R s) (by unfold t0R; rw [upd_same]; exact Int.le_refl _) hq M (by omega)
    have h2 := cost_le h q (way_in hs h.v hq).2.2
    have h3 : (q.length : Int) ≤ 100 := by omega
    show rounds es (t0R s) M v ≤ _
    omega
  refine ⟨hso.1, ?_, ⟨fun hlt => ?_, fun hg => by have := hsh hg; unfold farR; omega⟩, hsh⟩
  · rcases Int.lt_or_le (DR es s M v) farR with hlt | hge
    · obtain ⟨p, hp, hc⟩ := hso.2 hlt
      have := cost_pos (fun e he => (h.n e he).1) hp
      show 0 ≤ rounds es (t0R s) M v
      omega
    · unfold farR at hge; omega
  · obtain ⟨p, hp, _⟩ := hso.2 hlt
    exact ⟨p, hp⟩
theorem hr_spec {es : List Eg} {s M : Nat} (h : EsOk es M) (hs : s < M) : (∀ e ∈ es, HR es s M e.v ≤ DR es s M e.u + e.l) ∧ (∀ v, HR es s M v = t0R s v ∨ ∃ e ∈ es, e.v = v ∧ DR es s M e.u + e.l ≤ HR es s M v) ∧ ∀ v, HR es s M v ≤ t0R s v := by
  obtain ⟨hD, m, hm, hDm⟩ := dr_fix h hs
  have hlow : LowH es (DR es s M) (t0R s) (t0R s, t0R s) := ⟨fun v => rounds_mono es (t0R s) v (Nat.zero_le M), fun v => .inl rfl⟩
  refine ⟨fun e he => ?_, (lowH_rounds hD hlow M).2, fun v => ?_⟩
  · have h1 : HR es s M = (roundH es (roundsH es (t0R s, t0R s) m)).2 := by unfold HR; rw [hm]; rfl
    have h2 : roundsH es (t0R s, t0R s) m = (DR es s M, (roundsH es (t0R s, t0R s) m).2) := by
      have := roundsH_fst es (t0R s, t0R s) m
      rw [← hDm, ← this]
    rw [h1, h2]
    exact roundH_done es _ hD e he
  · have : ∀ k, (roundsH es (t0R s, t0R s) k).2 v ≤ t0R s v := fun k => by
      induction k with
      | zero => exact Int.le_refl _
      | succ k ih => exact Int.le_trans (roundH_le es _ v) ih
    exact this M
theorem hr_start {es : List Eg} {s M : Nat} (h : EsOk es M) (hs : s < M) (hM : M ≤ 100) : HR es s M s = 0 := by
  obtain ⟨_, h2, h3⟩ := hr_spec h hs
  have hz : t0R s s = 0 := upd_same _ _ _
  rcases h2 s with h4 | ⟨e, he, hv, hl⟩
  · rw [h4, hz]
  · have h5 := h3 s
    have h6 := (dr_gets h hs hM e.u).2.1
    have h7 := (h.l e he).1
    omega
/-- The way to another mode. -/
theorem way_found {es : List Eg} {s M to : Nat} (h : EsOk es M) (hs : s < M) (hM : M ≤ 100) (hto : to ≠ s) :
    (bestK es (DR es s M) farR to es.length).1 = HR es s M to ∧
    ((Gets es s to ∧ HR es s M to < farR ∧ ∃ i e, (bestK es (DR es s M) farR to es.length).2 = some i ∧ es[i]? = some e ∧ e.v = to ∧ HR es s M to = DR es s M e.u + e.l ∧ DR es s M e.u < farR) ∨
     (¬ Gets es s to ∧ HR es s M to = farR ∧ (bestK es (DR es s M) farR to es.length).2 = none)) := by
  obtain ⟨h1, h2, h3⟩ := hr_spec h hs
  have hb := best_there (F := farR) hto (fun v hv => t0R_ne hv) h1 h2 h3
  refine ⟨hb, ?_⟩
  obtain ⟨_, _, h4⟩ := bestK_spec es (DR es s M) farR to es.length
  rw [hb] at h4
  rcases h4 with ⟨h4, h5⟩ | ⟨i, e, h4, _, he, hv, h5, h6⟩
  · refine .inr ⟨fun hg => ?_, h5, h4⟩
    obtain ⟨p, hp⟩ := hg
    cases hp with
    | nil => exact hto rfl
    | snoc e hw he =>
      have h6 := h1 e he
      have h7 := (dr_gets h hs hM e.u).2.2.2 ⟨_, hw⟩
      have h8 := (h.l e he).2
      unfold farR at h5
      omega
  · refine .inl ⟨?_, h6, i, e, h4, he, hv, h5, ?_⟩
    · have h7 := (h.l e (List.mem_of_getElem? he)).1
      have h8 := ((dr_gets h hs hM e.u).2.2.1).1 (by omega)
      rw [← hv]
      exact h8.step (List.mem_of_getElem? he)
    · have h7 := (h.l e (List.mem_of_getElem? he)).1
      omega
end Go.Proofs.YteocldlglklnjaaDoor
