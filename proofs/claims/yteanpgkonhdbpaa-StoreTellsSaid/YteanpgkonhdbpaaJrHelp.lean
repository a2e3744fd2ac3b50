/- The entries by their numbers: what is found one behind the other is the row that is laid out by inserting. No condition. All entries by their numbers, as an iterator; walked. Condition: the device is one that may be. The law's row of all entries; walked. Condition: the device is one that may be. -/
import Derived.Test.YteanpgkonhdbpaaJrPlain
import Derived.Test.YteanpgkonhdbpaaJrOpen
namespace Go.Proofs.Yteanpgkonhdbpaa

/-- An entry put into its place; none is put in whose number is there. -/
def insE : List (Nat × Nat) → Nat × Nat → List (Nat × Nat)
  | [], e => [e]
  | x :: l, e => if x.1 < e.1 then x :: insE l e else if x.1 = e.1 then x :: l else e :: x :: l
def sortE (E : List (Nat × Nat)) : List (Nat × Nat) := E.foldl insE []
/-- The entry with the least number over one. -/
def pickE (last : Nat) (b e : Nat × Nat) : Nat × Nat := if last < e.1 ∧ (b.1 = 0 ∨ e.1 < b.1) then e else b
def bestE (last : Nat) (E : List (Nat × Nat)) : Nat × Nat := E.foldl (pickE last) (0, 0)
def SortedE (L : List (Nat × Nat)) : Prop := L.Pairwise (fun a b => a.1 < b.1)

theorem find_insE (last : Nat) (e : Nat × Nat) (he : 1 ≤ e.1) : ∀ L : List (Nat × Nat), (∀ x ∈ L, 1 ≤ x.1) → ((insE L e).find? (fun x => decide (last < x.1))).getD (0, 0) = pickE last ((L.find? (fun x => decide (last < x.1))).getD (0, 0)) e
  | [], _ => by
    unfold insE pickE
    by_cases h : last < e.1
    · simp [List.find?, h]
    · simp [List.find?, h]
  | x :: l, hx => by
    have ih := find_insE last e he l (fun y hy => hx y (by simp [hy]))
    have hx1 := hx x (by simp)
    unfold insE
    by_cases h1 : x.1 < e.1
    · rw [if_pos h1]
      by_cases h2 : last < x.1
      · rw [List.find?_cons_of_pos (by simpa using h2), List.find?_cons_of_pos (by simpa using h2)]
        unfold pickE
        simp only [Option.getD_some]
        rw [if_neg (by omega)]
      · rw [List.find?_cons_of_neg (by simpa using h2), List.find?_cons_of_neg (by simpa using h2)]
        exact ih
    · rw [if_neg h1]
      by_cases h3 : x.1 = e.1
      · rw [if_pos h3]
        by_cases h2 : last < x.1
        · rw [List.find?_cons_of_pos (by simpa using h2)]
          unfold pickE
          simp only [Option.getD_some]
          rw [if_neg (by omega)]
        · unfold pickE
          rw [if_neg (by omega)]
      · rw [if_neg h3]
        by_cases h2 : last < e.1
        · rw [List.find?_cons_of_pos (by simpa using h2)]
          rw [List.find?_cons_of_pos (a := x) (by simp; omega)]
          unfold pickE
          simp only [Option.getD_some]
          rw [if_pos (by omega)]
        · rw [List.find?_cons_of_neg (by simpa using h2)]
          unfold pickE
          rw [if_neg (by omega)]
theorem mem_insE {L : List (Nat × Nat)} {e x : Nat × Nat} (h : x ∈ insE L e) : x = e ∨ x ∈ L := by
  induction L with
  | nil => exact .inl (by simpa [insE] using h)
  | cons y l ih =>
    unfold insE at h
    split at h
    · rcases List.mem_cons.1 h with h | h
      · exact .inr (by simp [h])
      · rcases ih h with h | h
        · exact .inl h
        · exact .inr (by simp [h])
    · split at h
      · exact .inr h
      · rcases List.mem_cons.1 h with h | h
        · exact .inl h
        · exact .inr h
theorem insE_old {L : List (Nat × Nat)} {e x : Nat × Nat} (h : x ∈ L) : x ∈ insE L e := by
  induction L with
  | nil => cases h
  | cons y l ih =>
    unfold insE
    split
    · rcases List.mem_cons.1 h with h | h
      · simp [h]
      · simp [ih h]
    · split
      · exact h
      · exact List.mem_cons_of_mem _ h
theorem insE_new (L : List (Nat × Nat)) (e : Nat × Nat) : ∃ x ∈ insE L e, x.1 = e.1 := by
  induction L with
  | nil => exact ⟨e, by simp [insE], rfl⟩
  | cons y l ih =>
    unfold insE
    split
    · obtain ⟨x, h1, h2⟩ := ih
      exact ⟨x, by simp [h1], h2⟩
    · split
      · rename_i h
        exact ⟨y, by simp, h⟩
      · exact ⟨e, by simp, rfl⟩
theorem insE_sorted {L : List (Nat × Nat)} {e : Nat × Nat} (h : SortedE L) : SortedE (insE L e) := by
  induction L with
  | nil => simp [insE, SortedE]
  | cons y l ih =>
    unfold SortedE at h ih ⊢
    rw [List.pairwise_cons] at h
    unfold insE
    split
    · rename_i h1
      rw [List.pairwise_cons]
      refine ⟨fun x hx => ?_, ih h.2⟩
      rcases mem_insE hx with rfl | hx
      · exact h1
      · exact h.1 x hx
    · split
      · rw [List.pairwise_cons]; exact h
      · rename_i h1 h2
        rw [List.pairwise_cons, List.pairwise_cons]
        refine ⟨fun x hx => ?_, h⟩
        rcases List.mem_cons.1 hx with rfl | hx
        · omega
        · have := h.1 x hx; omega
theorem sort_snoc (E : List (Nat × Nat)) (e : Nat × Nat) : sortE (E ++ [e]) = insE (sortE E) e := by unfold sortE; rw [List.foldl_append]; rfl
theorem sort_sorted (E : List (Nat × Nat)) : SortedE (sortE E) := by
  suffices h : ∀ (E L : List (Nat × Nat)), SortedE L → SortedE (E.foldl insE L) from h E [] (by simp [SortedE])
  intro E
  induction E with
  | nil => intro L h; exact h
  | cons e E ih => intro L h; exact ih _ (insE_sorted h)
theorem fold_mem : ∀ (E L : List (Nat × Nat)) (x : Nat × Nat), x ∈ E.foldl insE L → x ∈ E ∨ x ∈ L
  | [], _, _, h => .inr h
  | e :: E, L, x, h => by
    rcases fold_mem E _ x h with h | h
    · exact .inl (by simp [h])
    · rcases mem_insE h with h | h
      · exact .inl (by simp [h])
      · exact .inr h
theorem sort_mem {E : List (Nat × Nat)} {x : Nat × Nat} (h : x ∈ sortE E) : x ∈ E := by
  rcases fold_mem E [] x h with h | h
  · exact h
  · cases h
theorem fold_old : ∀ (E L : List (Nat × Nat)) (x : Nat × Nat), x ∈ L → x ∈ E.foldl insE L
  | [], _, _, h => h
  | _ :: E, _, x, h => fold_old E _ x (insE_old h)
theorem fold_num : ∀ (E L : List (Nat × Nat)) (x : Nat × Nat), x ∈ E → ∃ y ∈ E.foldl insE L, y.1 = x.1
  | e :: E, L, x, h => by
    rcases List.mem_cons.1 h with rfl | h
    · obtain ⟨y, h1, h2⟩ := insE_new L x
      exact ⟨y, fold_old E _ y h1, h2⟩
    · exact fold_num E _ x h
/-- Where no two have the same number, all are there. -/
theorem sort_all {E : List (Nat × Nat)} {x : Nat × Nat} (h : x ∈ E) (hu : ∀ y ∈ E, y.1 = x.1 → y = x) : x ∈ sortE E := by
  obtain ⟨y, h1, h2⟩ := fold_num E [] x h
  have := hu y (sort_mem h1) h2
  rw [← this]
  exact h1
theorem best_find (last : Nat) : ∀ (E L : List (Nat × Nat)), (∀ x ∈ E, 1 ≤ x.1) → (∀ x ∈ L, 1 ≤ x.1) → E.foldl (pickE last) ((L.find? (fun x => decide (last < x.1))).getD (0, 0)) = ((E.foldl insE L).find? (fun x => decide (last < x.1))).getD (0, 0)
  | [], _, _, _ => rfl
  | e :: E, L, h1, h2 => by
    rw [List.foldl_cons, List.foldl_cons, ← find_insE last e (h1 e (by simp)) L h2]
    exact best_find last E _ (fun x hx => h1 x (by simp [hx])) (fun x hx => by
      rcases mem_insE hx with rfl | hx
      · exact h1 _ (by simp)
      · exact h2 x hx)
theorem best_eq (last : Nat) {E : List (Nat × Nat)} (h : ∀ x ∈ E, 1 ≤ x.1) : bestE last E = ((sortE E).find? (fun x => decide (last < x.1))).getD (0, 0) := best_find last E [] h (fun _ h => by cases h)
theorem find_sorted {last : Nat} : ∀ (pre rest : List (Nat × Nat)), (∀ x ∈ pre, x.1 ≤ last) → (∀ x ∈ rest, last < x.1) → (pre ++ rest).find? (fun x => decide (last < x.1)) = rest.head?
  | [], [], _, _ => rfl
  | [], x :: l, _, h => by rw [List.nil_append, List.find?_cons_of_pos (by simpa using h x (by simp))]; rfl
  | y :: pre, rest, h1, h2 => by
    rw [List.cons_append, List.find?_cons_of_neg (by have := h1 y (by simp); simp; omega)]
    exact find_sorted pre rest (fun x hx => h1 x (by simp [hx])) h2
/-- Behind the first k of the row comes the k-th. -/
theorem best_at {E : List (Nat × Nat)} (h : ∀ x ∈ E, 1 ≤ x.1) (k last : Nat) (hk : k ≤ (sortE E).length) (hl : k = 0 ∧ last = 0 ∨ ∃ x, 1 ≤ k ∧ (sortE E)[k - 1]? = some x ∧ last = x.1) :
    bestE last E = ((sortE E)[k]?).getD (0, 0) := by
  have hs := sort_sorted E
  rw [best_eq last h]
  have hpos : ∀ x ∈ sortE E, 1 ≤ x.1 := fun x hx => h x (sort_mem hx)
  generalize sortE E = L at *
  unfold SortedE at hs
  rw [List.pairwise_iff_getElem] at hs
  have hf := find_sorted (last := last) (L.take k) (L.drop k) (fun x hx => ?_) (fun x hx => ?_)
  · rw [List.take_append_drop, List.head?_drop] at hf
    rw [hf]
  · obtain ⟨i, hi, rfl⟩ := List.mem_iff_getElem.1 hx
    rw [List.length_take] at hi
    rw [List.getElem_take]
    rcases hl with ⟨h0, _⟩ | ⟨y, h1, hy, h2⟩
    · omega
    · obtain ⟨hy1, rfl⟩ := List.getElem?_eq_some_iff.1 hy
      rw [h2]
      rcases Nat.lt_or_ge i (k - 1) with g | g
      · exact Nat.le_of_lt (hs i (k - 1) (by omega) (by omega) g)
      · have : i = k - 1 := by omega
        subst this
        exact Nat.le_refl _
  · obtain ⟨i, hi, rfl⟩ := List.mem_iff_getElem.1 hx
    rw [List.length_drop] at hi
    rw [List.getElem_drop]
    rcases hl with ⟨_, h0⟩ | ⟨y, h1, hy, h2⟩
    · rw [h0]; exact hpos _ (List.getElem_mem _)
    · obtain ⟨hy1, rfl⟩ := List.getElem?_eq_some_iff.1 hy
      rw [h2]
      exact hs (k - 1) (k + i) (by omega) (by omega) (by omega)
/-- An entry's place, looked for from the end. -/
theorem insE_place {L : List (Nat × Nat)} {e : Nat × Nat} (hs : SortedE L) {k : Nat} (hk : k ≤ L.length) (h1 : ∀ i, (hi : i < L.length) → k ≤ i → e.1 < L[i].1) (h2 : ∀ (h : 1 ≤ k), (L[k - 1]'(by omega)).1 ≤ e.1) :
    insE L e = if ∃ (h : 1 ≤ k), (L[k - 1]'(by omega)).1 = e.1 then L else L.take k ++ e :: L.drop k := by
  induction L generalizing k with
  | nil =>
    have : k = 0 := by simpa using hk
    subst this
    rw [if_neg (fun ⟨h, _⟩ => absurd h (by omega))]
    rfl
  | cons x l ih =>
    unfold SortedE at hs ih
    rw [List.pairwise_cons] at hs
    cases k with
    | zero =>
      have := h1 0 (by simp) (Nat.le_refl _)
      rw [List.getElem_cons_zero] at this
      rw [if_neg (fun ⟨h, _⟩ => absurd h (by omega))]
      unfold insE
      rw [if_neg (by omega), if_neg (by omega)]
      rfl
    | succ k =>
      have hk' : k ≤ l.length := by simpa using hk
      have h1' : ∀ i, (hi : i < l.length) → k ≤ i → e.1 < l[i].1 := fun i hi g => by
        have := h1 (i + 1) (by simpa using hi) (by omega)
        rwa [List.getElem_cons_succ] at this
      cases k with
      | zero =>
        have h3 := h2 (by omega)
        simp only [Nat.zero_add, Nat.sub_self, List.getElem_cons_zero] at h3
        unfold insE
        by_cases h4 : x.1 = e.1
        · rw [if_neg (by omega), if_pos h4, if_pos ⟨by omega, by simpa using h4⟩]
        · rw [if_pos (by omega), if_neg (fun ⟨h, g⟩ => h4 (by simpa using g)), ih hs.2 (k := 0) (Nat.zero_le _) h1' (fun h => absurd h (by omega)), if_neg (fun ⟨h, _⟩ => absurd h (by omega))]
          rfl
      | succ k =>
        have h3 := h2 (by omega)
        have e1 : ((x :: l)[k + 1 + 1 - 1]'(by simp; omega)) = l[k + 1 - 1]'(by omega) := by simp
        rw [e1] at h3
        have hx : x.1 < e.1 := Nat.lt_of_lt_of_le (hs.1 _ (List.getElem_mem _)) h3
        unfold insE
        rw [if_pos hx, ih hs.2 (k := k + 1) hk' h1' (fun _ => h3)]
        by_cases h4 : (l[k + 1 - 1]'(by omega)).1 = e.1
        · rw [if_pos ⟨by omega, h4⟩, if_pos ⟨by omega, by rw [e1]; exact h4⟩]
        · rw [if_neg (fun ⟨_, g⟩ => h4 g), if_neg (fun ⟨_, g⟩ => h4 (by rw [e1] at g; exact g))]
          rfl
end Go.Proofs.Yteanpgkonhdbpaa

namespace Go.Proofs.Yteanpgkonhdbpaa
open Go.RowKit
attribute [local go_sem] Oper.semAt_some

/-- What the iterator over all entries rests on. -/
structure KA (B2 : Nat) (C : List Nat) (gj g base : Nat) (W W' : World) : Prop where
  kj : KJ C gj g base W W'
  oth : KeepsFrom B2 W W'
  u32 : ∀ (r : Nat) (cs : Array Value) (fr : Nat × Nat), W.heap[r]? = some (.cells cs 33 fr) → W'.heap[r]? = W.heap[r]?
  ent : ∀ (r : Nat) (cs : Array Value) (fr : Nat × Nat), W.heap[r]? = some (.cells cs 46 fr) → cs.size = 2 → W'.heap[r]? = W.heap[r]?
section
variable {B2 : Nat} {C : List Nat} {gj g base : Nat} {A B D : World}
theorem KA.refl (B2 : Nat) (C : List Nat) (gj g base : Nat) (W : World) : KA B2 C gj g base W W := ⟨KJ.refl _ _ _ _ _, KeepsFrom.refl _ _, fun _ _ _ _ => rfl, fun _ _ _ _ _ => rfl⟩
theorem KA.trans (h : KA B2 C gj g base A B) (k : KA B2 C gj g base B D) : KA B2 C gj g base A D :=
  ⟨h.kj.trans k.kj, h.oth.trans k.oth, fun r cs fr e => (k.u32 r cs fr ((h.u32 r cs fr e).trans e)).trans (h.u32 r cs fr e), fun r cs fr e h2 => (k.ent r cs fr ((h.ent r cs fr e h2).trans e) h2).trans (h.ent r cs fr e h2)⟩
theorem KA.turn {W : World} {l : Nat} {o : Obj} (hC : l ∉ C) (hl : l < B2) (o' : Obj) (ho : W.heap[l]? = some o) (hc : o.isCells = false) : KA B2 C gj g base W (W.putObj l o') :=
  ⟨⟨same_putO hC o', fun j hj hb => ⟨j, ⟨blk_putObj o' hj.blk ho hc⟩, hb⟩⟩, ⟨(keep_putObj W l o').size, fun x o2 hx ho2 _ => (World.putObj_heap_other (by omega)).trans ho2⟩,
    fun r cs fr e => World.putObj_heap_other (fun hh => by subst hh; rw [ho] at e; cases e; cases hc), fun r cs fr e _ => World.putObj_heap_other (fun hh => by subst hh; rw [ho] at e; cases e; cases hc)⟩
theorem KA.keep {F : List Nat} (k : Keep F A B) (hC : ∀ x ∈ C, x < A.heap.size ∧ x ∉ F) (hg : gj ∉ F) (hF : ∀ x ∈ F, x < A.heap.size → ∃ (cs : Array Value) (t : Nat) (fr : Nat × Nat), A.heap[x]? = some (.cells cs t fr) ∧ t ≠ 33 ∧ (t = 46 → cs.size ≠ 2)) : KA B2 C gj g base A B := by
  refine ⟨KJ.keep k hC hg, ⟨k.size, fun x o _ ho hc => (k.block x (Array.getElem?_eq_some_iff.1 ho).1 (fun hm => ?_)).trans ho⟩, fun r cs fr e => k.block r (Array.getElem?_eq_some_iff.1 e).1 (fun hm => ?_), fun r cs fr e h2 => k.block r (Array.getElem?_eq_some_iff.1 e).1 (fun hm => ?_)⟩
  · obtain ⟨cs, t, fr, h1, _⟩ := hF x hm (Array.getElem?_eq_some_iff.1 ho).1
    rw [ho] at h1
    cases h1
    cases hc
  · obtain ⟨cs', t, fr', h1, h2, _⟩ := hF r hm (Array.getElem?_eq_some_iff.1 e).1
    rw [e] at h1
    cases h1
    exact h2 rfl
  · obtain ⟨cs', t, fr', h1, _, h3⟩ := hF r hm (Array.getElem?_eq_some_iff.1 e).1
    rw [e] at h1
    cases h1
    exact h3 rfl h2
theorem KA.keep0 (k : Keep [] A B) (hC : ∀ x ∈ C, x < A.heap.size) : KA B2 C gj g base A B := KA.keep k (fun x hx => ⟨hC x hx, by simp⟩) (by simp) (by simp)
end
/-- All entries of a journal's sectors, one sector behind the other. -/
def entsJ (W : Wds) (m K : Nat) : List (Nat × Nat) := (List.range m).flatMap fun s => (sectE W s K).map (·.2)
theorem entsJ_snoc (W : Wds) (m K : Nat) : entsJ W (m + 1) K = entsJ W m K ++ (sectE W m K).map (·.2) := by
  unfold entsJ
  rw [List.range_succ, List.flatMap_append]
  simp
theorem mem_entsJ {W : Wds} {m K : Nat} {e : Nat × Nat} : e ∈ entsJ W m K ↔ ∃ s a, s < m ∧ a < K ∧ entJ W s a = some e := by
  unfold entsJ
  rw [List.mem_flatMap]
  constructor
  · rintro ⟨s, hs, he⟩
    obtain ⟨x, hx, rfl⟩ := List.mem_map.1 he
    obtain ⟨h1, h2⟩ := mem_sectE.1 hx
    exact ⟨s, x.1, List.mem_range.1 hs, h1, h2⟩
  · rintro ⟨s, a, hs, ha, he⟩
    exact ⟨s, List.mem_range.2 hs, List.mem_map.2 ⟨(a, e), mem_sectE.2 ⟨ha, he⟩, rfl⟩⟩
theorem entsJ_pos {W : Wds} {m K : Nat} : ∀ e ∈ entsJ W m K, 1 ≤ e.1 := fun e he => by
  obtain ⟨s, a, _, _, h⟩ := mem_entsJ.1 he
  exact (ent4_pos h).1
theorem entsJ_lt {W : Wds} {m K : Nat} : ∀ e ∈ entsJ W m K, e.1 ≤ 1073741824 := fun e he => by
  obtain ⟨s, a, _, _, h⟩ := mem_entsJ.1 he
  exact (ent4_pos h).2.1
abbrev encE1 (x : Nat × Nat) : Array Value := #[.agg (entC x).toArray]
theorem all_any0 (gj : Nat) (w : World) : Calls Try.prog 65 #[.pointer (some ⟨gj, 0, none⟩)] w fun e w' =>
    e = .returned (.func (.func 99) #[] #[.pointer (some ⟨w.heap.size, 0, none⟩)]) ∧ w.alloc (.cells #[.pointer (some ⟨gj, 0, none⟩)] 28) = w' := by
  go_enter Try.func65, Try.ntmps65
  go_wp2
  go_ret
  exact ⟨rfl, rfl⟩

theorem OwnFrom.at_ {β : Type} {B : Nat} {I : β → World → Prop} (h : OwnFrom B I) (s : β) : OwnFrom B (fun (_ : Unit) W => I s W) := fun _ X Y row hs hg hr => h s X Y row hs hg hr
/-- Cells of the type uint32, from a block on. -/
abbrev LoU (lb r : Nat) (o : Obj) : Prop := lb ≤ r ∧ ∃ (cs : Array Value) (fr : Nat × Nat), o = .cells cs 33 fr
theorem leavesM_marksI {F : Fence} {n : Nat} {P : Program} {fn : Func} {tmps : Array Value} {R : Ending → World → Prop} {B : Nat} {I : World → Prop} (hI : OwnFrom B (fun (_ : Unit) W => I W)) : ∀ (Ds : List Nat) (W : World), Ds.Nodup → (∀ D ∈ Ds, B ≤ D ∧ W.heap[D]? = some (.deferred (some []))) → I W →
    (∀ W', I W' → LeavesIn F n P fn tmps R [] .returning W') → LeavesInM F n P fn tmps R (marksJ Ds) .returning W
  | [], W, _, _, hi, h => h W hi
  | D :: Ds, W, hn, hd, hi, h => by
    have h1 := hd D (by simp)
    rw [List.nodup_cons] at hn
    refine ⟨by simp, .inl ⟨D, _, rfl, run_takeDeferred h1.2, leavesM_marksI hI Ds _ hn.2 (fun D' hD' => ⟨(hd D' (by simp [hD'])).1, ?_⟩) ?_ h⟩⟩
    · exact (World.putObj_heap_other (fun e => hn.1 (by subst e; exact hD'))).trans (hd D' (by simp [hD'])).2
    · exact hI.putObj (s := ()) _ hi h1.1 h1.2 rfl

set_option maxRecDepth 100000 in
set_option maxHeartbeats 4000000 in
theorem all1_seq (n : Nat) (gj g b1 b2 : Nat) (d : Dev) (j0 : JS) (Bj : Nat) (w : World) (hj : JrAt w gj g j0) (hd : DevAt w g b1 b2 d) (ho : d.Ok) (hb : j0.base + j0.many ≤ d.ns) (hBj : Blk w Bj 28 #[.pointer (some ⟨gj, 0, none⟩)]) :
    SeqT Fence.wide n Try.prog (LoU (w.heap.size + 2)) 99 #[.pointer (some ⟨Bj, 0, none⟩)] encE1 (KA (w.heap.size + 2) [Bj, gj, g, b1, b2] gj g j0.base) (sortE (entsJ (ownW d j0.base) j0.many (d.nw / 4))) w := by
  intro l0 J Jx W hW hge hJ hJx hY h0
  have hk0 : Keep [] w W := keepB hW
  have hst : ∀ W', KA (w.heap.size + 2) [Bj, gj, g, b1, b2] gj g j0.base W W' → JrAt W' gj g j0 ∧ DevAt W' g b1 b2 d ∧ Blk W' Bj 28 #[.pointer (some ⟨gj, 0, none⟩)] := fun W' hk => by
    have hb : ∀ x t cs, x ∈ [Bj, gj, g, b1, b2] → Blk w x t cs → Blk W' x t cs := fun x t cs hx hb => (hk.kj.same x hx).trans (hb.keep0 hk0)
    exact ⟨⟨hb gj _ _ (by simp) hj.blk⟩, ⟨hb g _ _ (by simp) hd.dev, hb b1 _ _ (by simp) hd.bits, hb b2 _ _ (by simp) hd.worn⟩, hb Bj _ _ (by simp) hBj⟩
  have HST := Lib.hid hst
  have HO := Lib.hid ho
  have HB := Lib.hid hb
  have hnw := ho.nw2
  have hns := ho.ns2
  have hK : d.nw / 4 ≤ 256 := by omega
  generalize hKK : d.nw / 4 = K at *
  have HKK : Hid (d.nw / 4 = K) := hKK
  have HPOS : Hid (∀ e ∈ entsJ (ownW d j0.base) j0.many K, 1 ≤ e.1) := entsJ_pos
  have HLE : Hid (∀ e ∈ sortE (entsJ (ownW d j0.base) j0.many K), e.1 ≤ 1073741824) := fun e he => entsJ_lt e (sort_mem he)
  have hmany : j0.many ≤ 64 := by omega
  clear hst hj hd hBj hW hk0 ho hb hnw hKK
  refine callsIn_wide.2 ?_
  rw [← callsIn_wide (n := 9)]
  refine callsIn_of_wp_marks Try.func99 rfl trivial ?_ rfl
  simp only [Try.ntmps99, List.size_toArray, List.length_cons, List.length_nil, Nat.reduceAdd, Nat.reduceSub, Array.replicate_succ, Array.replicate_zero, List.push_toArray, List.append_toArray, List.nil_append, List.cons_append]
  gi_wp2
  obtain ⟨W0, hW0⟩ : ∃ W0, W.alloc (.cells #[.int .u32 0] 33) = W0 := ⟨_, rfl⟩
  have k0 : Keep [] W W0 := by rw [← hW0]; exact (Keep.refl [] W).alloc _
  have b3 : Blk W0 W.heap.size 33 #[.int .u32 0] := by rw [← hW0]; exact Blk.new _ _ _
  have hlt0 : ∀ x ∈ [Bj, gj, g, b1, b2], x < W.heap.size := fun x hx => by
    obtain ⟨h1, h2, h3⟩ := HST.out W (KA.refl _ _ _ _ _ _)
    have e1 := h1.blk.lt
    have e2 := h2.dev.lt
    have e3 := h2.bits.lt
    have e4 := h2.worn.lt
    have e5 := h3.lt
    simp only [List.mem_cons, List.not_mem_nil, or_false] at hx
    omega
  have HLT := Lib.hid hlt0
  have HJ0 := hJ.k0 h0 k0
  have hka0 : KA (w.heap.size + 2) [Bj, gj, g, b1, b2] gj g j0.base W W0 := KA.keep0 k0 hlt0
  rw [hW0]
  clear hW0 hlt0 h0
  have HSO := Lib.hid (sort_sorted (entsJ (ownW d j0.base) j0.many K))
  have HBA : Hid (∀ (k last : Nat), k ≤ (sortE (entsJ (ownW d j0.base) j0.many K)).length → (k = 0 ∧ last = 0 ∨ ∃ x, 1 ≤ k ∧ (sortE (entsJ (ownW d j0.base) j0.many K))[k - 1]? = some x ∧ last = x.1) → bestE last (entsJ (ownW d j0.base) j0.many K) = ((sortE (entsJ (ownW d j0.base) j0.many K))[k]?).getD (0, 0)) := fun k last h1 h2 => best_at HPOS.out k last h1 h2
  have HLPOS : Hid (∀ e ∈ sortE (entsJ (ownW d j0.base) j0.many K), 1 ≤ e.1) := fun e he => HPOS.out e (sort_mem he)
  generalize hLL : sortE (entsJ (ownW d j0.base) j0.many K) = L at *
  have HLL := Lib.hid hLL
  clear hLL
  clear HPOS
  refine wpIn_loop (fun a' wr => ∃ (k last : Nat) (Ds : List Nat) (u4 u5 u7 u8 u9 u10 u11 u12 u13 u14 u15 u16 u17 u18 u19 u20 u21 u22 u23 u24 u25 u26 u27 u28 u29 u30 u31 u32 u33 u34 u35 u36 u37 u38 u39 u40 u41 u42 u43 u44 u45 u46 u47 u48 u49 : Value), (k ≤ L.length ∧ (k = 0 ∧ last = 0 ∨ ∃ x, 1 ≤ k ∧ L[k - 1]? = some x ∧ last = x.1) ∧ last ≤ 1073741824 ∧ J (L.take k) wr ∧ KA (w.heap.size + 2) [Bj, gj, g, b1, b2] gj g j0.base W wr ∧ Blk wr W.heap.size 33 #[.int .u32 (last : Int)] ∧ W.heap.size + 1 ≤ wr.heap.size ∧ Ds.Nodup ∧ (∀ D ∈ Ds, W.heap.size + 1 ≤ D ∧ wr.heap[D]? = some (.deferred (some [])))) ∧
    a' = { tmps := #[Value.func (.yield l0) #[] #[], Value.pointer (some ⟨Bj, 0, none⟩), undef, Value.pointer (some ⟨W.heap.size, 0, none⟩), u4, u5, undef, u7, u8, u9, u10, u11, u12, u13, u14, u15, u16, u17, u18, u19, u20, u21, u22, u23, u24, u25, u26, u27, u28, u29, u30, u31, u32, u33, u34, u35, u36, u37, u38, u39, u40, u41, u42, u43, u44, u45, u46, u47, u48, u49], defers := marksJ Ds }) (fun _ wr => 1073741825 - (intOf ((wr.cell? ⟨W.heap.size, 0, none⟩).getD undef)).toNat) ?start ?round
  case start => exact ⟨0, 0, [], undef, undef, undef, undef, undef, undef, undef, undef, undef, undef, undef, undef, undef, undef, undef, undef, undef, undef, undef, undef, undef, undef, undef, undef, undef, undef, undef, undef, undef, undef, undef, undef, undef, undef, undef, undef, undef, undef, undef, undef, undef, undef, undef, undef, undef, ⟨Nat.zero_le _, .inl ⟨rfl, rfl⟩, by omega, HJ0, hka0, b3, by have := b3.lt; omega, List.nodup_nil, fun D hD => absurd hD (by simp)⟩, rfl⟩
  case round =>
    clear k0 b3 HJ0 hka0
    rintro a' wr ⟨k, last, Ds, u4, u5, u7, u8, u9, u10, u11, u12, u13, u14, u15, u16, u17, u18, u19, u20, u21, u22, u23, u24, u25, u26, u27, u28, u29, u30, u31, u32, u33, u34, u35, u36, u37, u38, u39, u40, u41, u42, u43, u44, u45, u46, u47, u48, u49, ⟨hk, hl, hlb, hjw, hka, hb3, hsz, hnd, hds⟩, rfl⟩
    have hcl : (intOf ((wr.cell? ⟨W.heap.size, 0, none⟩).getD undef)).toNat = last := by rw [hb3.cell]; simp [intOf]
    have HCL := Lib.hid hcl
    have HNOW := HST.out wr hka
    have HHL := Lib.hid hl
    have HJW := Lib.hid hjw
    have HKA := Lib.hid hka
    have HB3 := Lib.hid hb3
    have HND := Lib.hid hnd
    have HDS := Lib.hid hds
    have HBE := Lib.hid (HBA.out k last hk hl)
    clear hcl hl hjw hka hb3 hnd hds
    gi_wp2_with (refine stopIn_store 46 (.tmp 4) (.tmp 8) rfl ?_)
    constructor
    refine wpListIn_store_all rfl 46 (.tmp 4) (.tmp 8) rfl rfl rfl (vs := entC (0, 0)) agg_entry.2 (Blk.new _ _ _) (entC_one _) rfl ?_
    intro w1 d4 kk4
    have k1 : Keep [] wr w1 := ((Keep.refl [] wr).alloc _).trans kk4 (fun y hy h => by simp at hy h; omega)
    clear kk4
    obtain ⟨hj1, hd1, hbj1⟩ := HNOW
    have cj := (hbj1.keep0 k1).cell 0
    have cm := (hj1.keep0 k1).cells.2.2.1
    simp at cj
    have HJ1 := Lib.hid (hj1.keep0 k1)
    have HD1 := Lib.hid (hd1.keep0 k1)
    have HBJ1 := Lib.hid (hbj1.keep0 k1)
    clear hj1 hd1 hbj1
    gi_wp2
    refine wpIn_loop (fun a' w2 => ∃ (s : Nat) (Ds' : List Nat) (v5 v7 v14 v15 v16 v17 v18 v19 v20 v21 v22 v23 v24 v25 v26 v27 v28 v29 v30 v31 v32 v33 v34 v35 v36 v37 v38 : Value), (s ≤ j0.many ∧ Ds'.Nodup ∧ (∀ D ∈ Ds', W.heap.size + 1 ≤ D ∧ w2.heap[D]? = some (.deferred (some []))) ∧ Blk w2 wr.heap.size 46 (entC (bestE last (entsJ (ownW d j0.base) s K))).toArray ∧ Keep [wr.heap.size] w1 w2) ∧
      a' = { tmps := #[Value.func (.yield l0) #[] #[], Value.pointer (some ⟨Bj, 0, none⟩), undef, Value.pointer (some ⟨W.heap.size, 0, none⟩), Value.pointer (some ⟨wr.heap.size, 0, none⟩), v5, undef, v7, Value.agg (entC (0, 0)).toArray, Value.pointer (some ⟨gj, 0, none⟩), Value.pointer (some ⟨gj, 0, none⟩), Value.pointer (some ⟨gj, 2, none⟩), Value.int .i64 (j0.many : Int), Value.int .i64 (s : Int), v14, v15, v16, v17, v18, v19, v20, v21, v22, v23, v24, v25, v26, v27, v28, v29, v30, v31, v32, v33, v34, v35, v36, v37, v38, u39, u40, u41, u42, u43, u44, u45, u46, u47, u48, u49], defers := marksJ Ds' }) (fun a' _ => j0.many - (intOf (a'.tmps.getD 13 undef)).toNat) ?start2 ?round2
    case start2 =>
      refine ⟨0, Ds, _, _, _, _, _, _, _, _, _, _, _, _, _, _, _, _, _, _, _, _, _, _, _, _, _, _, _, ⟨Nat.zero_le _, HND.out, fun D hD => ?_, d4, Keep.refl _ _⟩, rfl⟩
      have h1 := HDS.out D hD
      exact ⟨h1.1, (k1.block D (Array.getElem?_eq_some_iff.1 h1.2).1 (by simp)).trans h1.2⟩
    case round2 =>
      clear d4 cj cm
      rintro a' w2 ⟨s, Ds', v5, v7, v14, v15, v16, v17, v18, v19, v20, v21, v22, v23, v24, v25, v26, v27, v28, v29, v30, v31, v32, v33, v34, v35, v36, v37, v38, ⟨hs, hnd2, hds2, hb4, hk2⟩, rfl⟩
      have hg4 : ∀ x ∈ [Bj, gj, g, b1, b2], x ≠ wr.heap.size := fun x hx => by
        have h1 := HLT.out x hx
        omega
      have hj2 := HJ1.out.keep hk2 (by simp; exact hg4 gj (by simp))
      have hd2 := HD1.out.keep hk2 (by simp; exact hg4 g (by simp)) (by simp; exact hg4 b1 (by simp)) (by simp; exact hg4 b2 (by simp))
      have cj := (HBJ1.out.keep hk2 (by simp; exact hg4 Bj (by simp))).cell 0
      simp at cj
      by_cases hlt : s < j0.many
      · have q6 : decide ((s : Int) < (j0.many : Int)) = true := decide_eq_true (by omega)
        have HDS2 := Lib.hid hds2
        have HND2 := Lib.hid hnd2
        gi_wp2_with (refine ⟨trivial, ?_⟩; refine (callsIn_wide.2 (ents_any gj s _)).mono ?_; rintro e W3 ⟨rfl, hW3⟩)
        have k3 : Keep [] w2 W3 := by rw [← hW3]; exact ((Keep.refl [] w2).alloc _).alloc _
        have bj : Blk W3 w2.heap.size 28 #[.pointer (some ⟨gj, 0, none⟩)] := by rw [← hW3]; exact (Blk.new _ _ _).alloc _
        have hz10 : (w2.alloc (.cells #[.pointer (some ⟨gj, 0, none⟩)] 28)).heap.size = w2.heap.size + 1 := by simp
        have bs : Blk W3 (w2.heap.size + 1) 3 #[.int .i64 (s : Int)] := by rw [← hW3, ← hz10]; exact Blk.new _ _ _
        have sz3 : W3.heap.size = w2.heap.size + 2 := by rw [← hW3]; simp
        have hb4' := hb4.keep0 k3
        have hlt4 := hb4.lt
        have hseq := ents1_seq 8 gj g b1 b2 d j0.base s w2.heap.size (w2.heap.size + 1) W3 ⟨_, hj2.keep0 k3, rfl⟩ (hd2.keep0 k3) HO.out (by have := HB.out; omega) bj bs
        rw [HKK.out, sectE_own] at hseq
        have hlts : ∀ x ∈ [w2.heap.size, w2.heap.size + 1, g, b1, b2], x < W3.heap.size := fun x hx => by
          have h3 := hd2.dev.lt
          have h4 := hd2.bits.lt
          have h5 := hd2.worn.lt
          simp only [List.mem_cons, List.not_mem_nil, or_false] at hx
          omega
        have hnes : ∀ x ∈ [w2.heap.size, w2.heap.size + 1, g, b1, b2], x ≠ wr.heap.size := fun x hx => by
          simp only [List.mem_cons, List.not_mem_nil, or_false] at hx
          rcases hx with rfl | rfl | rfl | rfl | rfl
          · omega
          · omega
          · exact hg4 _ (by simp)
          · exact hg4 _ (by simp)
          · exact hg4 _ (by simp)
        have hgjn : gj ≠ wr.heap.size := hg4 gj (by simp)
        have HLS := Lib.hid (And.intro hlts hnes)
        have HK2 := Lib.hid hk2
        clear hW3 hz10 hj2 hd2 hb4 hk2 hds2 hnd2 cj bj bs hnes
        refine wpIn_rangeFunc_ownH (F := Fence.wide) (n := 9) (ps := #[19, 20]) rfl (by omega) (gf := 95) (lb := #[.pointer (some ⟨w2.heap.size, 0, none⟩), .pointer (some ⟨w2.heap.size + 1, 0, none⟩)]) rfl trivial (enters_of Try.func95 (by kernel_rfl) rfl)
          hseq.stops KJ.trans (KJ.turn hlts) (Below.refl _ _) (fun _ => rfl)
          (fun pre W => Blk W wr.heap.size 46 (entC ((pre.map (·.2)).foldl (pickE last) (bestE last (entsJ (ownW d j0.base) s K)))).toArray ∧ Keep [wr.heap.size] W3 W)
          (fun _ _ _ => False)
          ?hI ?hIx ⟨hb4', Keep.refl _ _⟩
          (fun m a' V9 => ∃ g7 : Nat, g7 ≠ wr.heap.size ∧ Blk V9 g7 46 (entC m.2).toArray ∧ a' = { tmps := #[Value.func (.yield l0) #[] #[], Value.pointer (some ⟨Bj, 0, none⟩), undef, Value.pointer (some ⟨W.heap.size, 0, none⟩), Value.pointer (some ⟨wr.heap.size, 0, none⟩), Value.int .i64 (s : Int), undef, Value.pointer (some ⟨g7, 0, none⟩), Value.agg (entC (0, 0)).toArray, Value.pointer (some ⟨gj, 0, none⟩), Value.pointer (some ⟨gj, 0, none⟩), Value.pointer (some ⟨gj, 2, none⟩), Value.int .i64 (j0.many : Int), Value.int .i64 (s : Int), Value.bool true, Value.int .i64 (s : Int), Value.pointer (some ⟨gj, 0, none⟩), Value.int .i64 (s : Int), Value.func (.func 95) #[] #[.pointer (some ⟨w2.heap.size, 0, none⟩), .pointer (some ⟨w2.heap.size + 1, 0, none⟩)], Value.int .i64 (m.1 : Int), Value.agg (entC m.2).toArray, v21, v22, v23, v24, v25, v26, v27, v28, v29, v30, v31, v32, v33, v34, v35, v36, v37, v38, u39, u40, u41, u42, u43, u44, u45, u46, u47, u48, u49], defers := [] }) ?hAx ?assign ?body ?done ?stop
        case hI =>
          intro pre X Y row hs hg hr
          exact ⟨blk_own (β := Unit) _ _ (fun _ => _) () X Y row hs.1 hg hr, keep_own (β := Unit) (Nat.le_refl _) () X Y row hs.2 hg hr⟩
        case hIx => exact fun _ _ _ _ _ hs _ _ => hs
        case hAx =>
          rintro _ m a' X Y row ⟨g7, h0, h1, h2⟩ hg hr
          exact ⟨g7, h0, blk_own (β := Unit) _ _ (fun _ => _) () X Y row h1 hg hr, h2⟩
        case assign =>
          rintro l pre m V K' hi hKK'
          have hVz := hi.2.size
          gi_wp2_with (refine stopIn_store 46 (.tmp 7) (.tmp 20) rfl ?_)
          constructor
          refine wpListIn_store_all rfl 46 (.tmp 7) (.tmp 20) rfl rfl rfl (vs := entC m.2) agg_entry.2 (Blk.new _ _ _) (entC_one _) rfl ?_
          intro W1 d1 kk1
          have kr : Keep [] V W1 := ((Keep.refl [] V).alloc _).trans kk1 (fun y hy h => by simp at hy h; omega)
          gi_wp2
          exact hKK' _ _ (Keep.from0 kr) (KJ.keep kr (fun x hx => ⟨Nat.lt_of_lt_of_le (HLS.out.1 x hx) hVz, by simp⟩) (by simp)) ⟨hi.1.keep0 kr, hi.2.then kr⟩ ⟨_, by omega, d1, rfl⟩
        case body =>
          rintro l pre m a' V hl ⟨r, hr⟩ ⟨hbv, hkv⟩ ⟨g7, hg7, hb7, rfl⟩ hlt2
          have hst : ((pre ++ [m]).map (·.2)).foldl (pickE last) (bestE last (entsJ (ownW d j0.base) s K)) = pickE last ((pre.map (·.2)).foldl (pickE last) (bestE last (entsJ (ownW d j0.base) s K))) m.2 := by rw [List.map_append, List.foldl_append]; rfl
          have HST2 := Lib.hid hst
          generalize (pre.map (·.2)).foldl (pickE last) (bestE last (entsJ (ownW d j0.base) s K)) = bb at *
          clear hst hlts
          have HBV := Lib.hid hbv
          have HKV := Lib.hid hkv
          have HB7 := Lib.hid hb7
          have HR := Lib.hid hr
          have hVz := hkv.size
          have c3 : V.cell? ⟨W.heap.size, 0, none⟩ = some (.int .u32 (last : Int)) := by
            have hx0 := HB3.out.lt
            rw [hkv.cell (p := ⟨W.heap.size, 0, none⟩) (by have := k3.size; have := HK2.out.size; have := k1.size; show W.heap.size < _; omega) (by simp; omega), k3.cell (p := ⟨W.heap.size, 0, none⟩) (by have := HK2.out.size; have := k1.size; show W.heap.size < _; omega) (by simp), HK2.out.cell (p := ⟨W.heap.size, 0, none⟩) (by have := k1.size; show W.heap.size < _; omega) (by simp; omega), k1.cell (p := ⟨W.heap.size, 0, none⟩) hx0 (by simp), HB3.out.cell]; rfl
          have c4 := hbv.cell 0
          have c7 := hb7.cell 0
          have c71 := hb7.cell 1
          simp [entC] at c4 c7 c71
          have hkeepKJ : ∀ V', Keep [wr.heap.size] V V' → KJ [w2.heap.size, w2.heap.size + 1, g, b1, b2] gj g j0.base V V' := fun V' hk => KJ.keep hk (fun x hx => ⟨Nat.lt_of_lt_of_le (HLS.out.1 x hx) hVz, by simp; exact HLS.out.2 x hx⟩) (by simp; exact hgjn)
          have HKJ := Lib.hid hkeepKJ
          clear hkeepKJ hbv hkv hb7 hr
          obtain ⟨ma, ms, mw⟩ := m
          obtain ⟨bs_, bw⟩ := bb
          dsimp only at c4 c7 c71 HB7
          by_cases h1 : last < ms
          · have q7 : decide ((last : Int) < (ms : Int)) = true := decide_eq_true (by omega)
            have q7n : (last < ms) = True := eq_true h1
            by_cases h3 : bs_ = 0
            · have HSE : Hid (pickE last (bs_, bw) (ms, mw) = (ms, mw)) := if_pos ⟨h1, .inl h3⟩
              have q8n : (bs_ = 0) = True := eq_true h3
              have q8 : ((bs_ : Int) == 0) = true := by rw [beq_iff_eq]; omega
              clear h1 h3
              gi_wp2_with (refine stopIn_store 46 (.tmp 4) (.tmp 37) rfl ?_)
              constructor
              refine wpListIn_store_all rfl 46 (.tmp 4) (.tmp 37) rfl rfl rfl (vs := entC (ms, mw)) agg_entry.2 HBV.out (entC_one _) rfl ?_
              intro V2 d2 kk2
              gi_wp2
              refine ⟨kk2.from (fun y hy => .inr (by simp at hy; subst hy; exact ⟨_, _, _, HBV.out⟩)), HKJ.out _ kk2, ?_, HKV.out.trans kk2 (fun y hy _ => hy)⟩
              rw [HST2.out, HSE.out]
              exact d2
            · have q8n : (bs_ = 0) = False := eq_false h3
              have q8 : ((bs_ : Int) == 0) = false := by rw [beq_eq_false_iff_ne]; omega
              by_cases h4 : ms < bs_
              · have HSE : Hid (pickE last (bs_, bw) (ms, mw) = (ms, mw)) := if_pos ⟨h1, .inr h4⟩
                have q9n : (ms < bs_) = True := eq_true h4
                have q9 : decide ((ms : Int) < (bs_ : Int)) = true := decide_eq_true (by omega)
                clear h1 h3 h4
                gi_wp2_with (refine stopIn_store 46 (.tmp 4) (.tmp 37) rfl ?_)
                constructor
                refine wpListIn_store_all rfl 46 (.tmp 4) (.tmp 37) rfl rfl rfl (vs := entC (ms, mw)) agg_entry.2 HBV.out (entC_one _) rfl ?_
                intro V2 d2 kk2
                gi_wp2
                refine ⟨kk2.from (fun y hy => .inr (by simp at hy; subst hy; exact ⟨_, _, _, HBV.out⟩)), HKJ.out _ kk2, ?_, HKV.out.trans kk2 (fun y hy _ => hy)⟩
                rw [HST2.out, HSE.out]
                exact d2
              · have HSE : Hid (pickE last (bs_, bw) (ms, mw) = (bs_, bw)) := if_neg (fun hh => by rcases hh.2 with h | h; exact h3 h; exact h4 h)
                have q9n : (ms < bs_) = False := eq_false h4
                have q9 : decide ((ms : Int) < (bs_ : Int)) = false := decide_eq_false (by omega)
                clear h1 h3 h4
                gi_wp2
                have hfin : Blk V wr.heap.size 46 (entC (((pre ++ [(ma, ms, mw)]).map (·.2)).foldl (pickE last) (bestE last (entsJ (ownW d j0.base) s K)))).toArray := by rw [HST2.out, HSE.out]; exact HBV.out
                exact (⟨KeepsFrom.refl _ _, KJ.refl _ _ _ _ _, hfin, HKV.out⟩ : KeepsFrom _ _ _ ∧ KJ _ _ _ _ _ _ ∧ _ ∧ _)
          · have HSE : Hid (pickE last (bs_, bw) (ms, mw) = (bs_, bw)) := if_neg (fun hh => h1 hh.1)
            have q7 : decide ((last : Int) < (ms : Int)) = false := decide_eq_false (by omega)
            have q7n : (last < ms) = False := eq_false h1
            clear h1
            gi_wp2
            have hfin : Blk V wr.heap.size 46 (entC (((pre ++ [(ma, ms, mw)]).map (·.2)).foldl (pickE last) (bestE last (entsJ (ownW d j0.base) s K)))).toArray := by rw [HST2.out, HSE.out]; exact HBV.out
            exact (⟨KeepsFrom.refl _ _, KJ.refl _ _ _ _ _, hfin, HKV.out⟩ : KeepsFrom _ _ _ ∧ KJ _ _ _ _ _ _ ∧ _ ∧ _)
        case done =>
          rintro D ys V hD hys ⟨hbv, hkv⟩ hD2
          have hys' : ys = sectE (ownW d j0.base) s K := hys
          subst hys'
          have hfold : Blk V wr.heap.size 46 (entC (bestE last (entsJ (ownW d j0.base) (s + 1) K))).toArray := by
            unfold bestE at hbv ⊢
            rw [entsJ_snoc, List.foldl_append]
            exact hbv
          have HFO := Lib.hid hfold
          have HKW := Lib.hid ((HK2.out.then k3).trans hkv (fun y hy _ => hy))
          have HDD : Hid ((D :: Ds').Nodup ∧ ∀ D' ∈ D :: Ds', W.heap.size + 1 ≤ D' ∧ V.heap[D']? = some (.deferred (some []))) := by
            have hlt' : ∀ D' ∈ Ds', D' < w2.heap.size := fun D' hD' => (Array.getElem?_eq_some_iff.1 (HDS2.out D' hD').2).1
            refine ⟨List.nodup_cons.2 ⟨fun h => by have := hlt' D h; omega, HND2.out⟩, fun D' hD' => ?_⟩
            rcases List.mem_cons.1 hD' with rfl | h
            · exact ⟨by have := k3.size; have := HK2.out.size; have := k1.size; omega, hD2⟩
            · have h1 := hlt' D' h
              have h2 := HDS2.out D' h
              have h3 : D' ≠ wr.heap.size := fun e => by
                have h4 := hb4'.lt
                have h5 : W3.heap[D']? = some (.deferred (some [])) := (k3.block D' h1 (by simp)).trans h2.2
                rw [e, show W3.heap[wr.heap.size]? = _ from hb4'] at h5
                cases h5
              refine ⟨h2.1, ?_⟩
              rw [hkv.block D' (by omega) (by simp; exact h3), k3.block D' h1 (by simp)]
              exact h2.2
          clear hbv hfold hkv hD2
          gi_wp2_with fail
          refine ⟨⟨s + 1, D :: Ds', ⟨by omega, HDD.out.1, HDD.out.2, HFO.out, HKW.out⟩, by omega, rfl⟩, ?_⟩
          show j0.many - ((s : Int) + 1).toNat < j0.many - (s : Int).toNat
          omega
        case stop =>
          rintro D c pre V _ hpre hF _
          exact hF.elim
      · have q6 : decide ((s : Int) < (j0.many : Int)) = false := decide_eq_false (by omega)
        have hse : s = j0.many := by omega
        rw [hse, HBE.out] at hb4
        have kw2 : Keep [] wr w2 := k1.trans hk2 (fun y hy hlt => by simp at hy; omega)
        have hjw2 := hJ.k0 HJW.out kw2
        have hkw2 : KA (w.heap.size + 2) [Bj, gj, g, b1, b2] gj g j0.base W w2 := HKA.out.trans (KA.keep0 kw2 (fun x hx => by have := HLT.out x hx; omega))
        have hb32 := HB3.out.keep0 kw2
        have HDS2 := Lib.hid hds2
        have HND2 := Lib.hid hnd2
        clear hk2 hj2 hd2 cj hds2 hnd2 kw2
        rcases Nat.lt_or_ge k L.length with hkl | hkl
        · rw [List.getElem?_eq_getElem hkl, Option.getD_some] at hb4
          have hpre : L.take k ++ [L[k]] <+: L := by
            rw [List.take_append_getElem hkl]
            exact List.take_prefix _ _
          have htk : L.take (k + 1) = L.take k ++ [L[k]] := (List.take_append_getElem hkl).symm
          have hpos := HLPOS.out L[k] (List.getElem_mem hkl)
          have hle := HLE.out L[k] (List.getElem_mem hkl)
          have hinc : last < L[k].1 := by
            rcases HHL.out with ⟨_, h0⟩ | ⟨x, h1, hx, h2⟩
            · omega
            · obtain ⟨hx1, rfl⟩ := List.getElem?_eq_some_iff.1 hx
              have := List.pairwise_iff_getElem.1 HSO.out (k - 1) k (by omega) hkl (by omega)
              omega
          have hnx : L[k + 1 - 1]? = some L[k] := by rw [Nat.add_sub_cancel, List.getElem?_eq_getElem hkl]
          obtain ⟨fn, tmps, assign, body, hy, hR⟩ := yieldAt_any (m' := 8) open_wide (hY (L.take k) L[k] w2 hjw2 hpre)
          dsimp only [encE1] at hy
          have HPRE := Lib.hid hpre
          have HTK := Lib.hid htk
          have HNX := Lib.hid hnx
          have HFO := Lib.hid (And.intro hpos (And.intro hle hinc))
          have HB4 := Lib.hid hb4
          have HB32 := Lib.hid hb32
          have HKW2 := Lib.hid hkw2
          have c40 := hb4.cell 0
          have c41 := hb4.cell 1
          simp [entC] at c40 c41
          have q8 : ((L[k].1 : Int) == 0) = false := by rw [beq_eq_false_iff_ne]; omega
          have q8n : (L[k].1 = 0) = False := eq_false (by omega)
          generalize L[k] = en at *
          obtain ⟨es, ew⟩ := en
          dsimp only at c40 c41 q8 q8n hy
          clear hpre htk hpos hle hinc hnx hb4 hb32 hkw2 hjw2 hlt
          gi_wp2_with (refine stopIn_at 44 rfl ?_)
          constructor
          refine wpListIn_agg_wJ (by rfl) 46 (.tmp 4) rfl rfl (cs := entC (es, ew)) agg_entry HB4.out.cellsAt ?_
          gi_wp2
          refine hR.mono ?_
          rintro e W3 (⟨rfl, hJ3, hk3⟩ | ⟨rfl, hJx3, hk3⟩)
          · have hb43 : Blk W3 wr.heap.size 46 (entC (es, ew)).toArray := (hk3.ent _ _ _ HB4.out rfl).trans HB4.out
            have hb33 : Blk W3 W.heap.size 33 #[.int .u32 (last : Int)] := (hk3.u32 _ _ _ HB32.out).trans HB32.out
            have c43 := hb43.cell 0
            have f33 := hb33.frozen 0
            have c33 := hb33.cell 0
            simp [entC] at c43
            simp at c33
            have hj4 := hJ.set (.int .u32 (es : Int)) hJ3 hb33 rfl ⟨by omega, _, _, rfl⟩
            have ks := keep_set W3 W.heap.size 0 (.int .u32 (es : Int))
            have hka4 : KA (w.heap.size + 2) [Bj, gj, g, b1, b2] gj g j0.base W (W3.setCell ⟨W.heap.size, 0, none⟩ (.int .u32 (es : Int))) := by
              have h9 := HKW2.out.trans hk3
              refine ⟨h9.kj.trans (KJ.keep ks (fun x hx => ⟨?_, by have := HLT.out x hx; simp; omega⟩) (by have := HLT.out gj (by simp); simp; omega)), h9.oth.trans (ks.from (fun y hy => .inr (by simp at hy; subst hy; exact ⟨_, _, _, hb33⟩))), fun r cs fr e => ?_, fun r cs fr e h2 => ?_⟩
              · have := h9.kj.same x hx
                have h8 := HLT.out x hx
                have := h9.oth.size
                omega
              · have h8 := (Array.getElem?_eq_some_iff.1 e).1
                have h7 := h9.oth.size
                rw [ks.block r (by omega) (by simp; omega)]
                exact h9.u32 r cs fr e
              · have h8 := (Array.getElem?_eq_some_iff.1 e).1
                have h7 := h9.oth.size
                rw [ks.block r (by omega) (by simp; omega)]
                exact h9.ent r cs fr e h2
            have hb34 := hb33.set_ 0 (.int .u32 (es : Int))
            have HDD : Hid (∀ D ∈ Ds', W.heap.size + 1 ≤ D ∧ (W3.setCell ⟨W.heap.size, 0, none⟩ (.int .u32 (es : Int))).heap[D]? = some (.deferred (some []))) := fun D hD => by
              have h8 := HDS2.out D hD
              have h7 := hk3.oth.same D _ (by omega) h8.2 rfl
              refine ⟨h8.1, ?_⟩
              rw [ks.block D (Array.getElem?_eq_some_iff.1 h7).1 (by simp; omega)]
              exact h7
            have HJ4 := Lib.hid hj4
            have HKA4 := Lib.hid hka4
            have HB34 := Lib.hid hb34
            have hz4 : W.heap.size + 1 ≤ (W3.setCell ⟨W.heap.size, 0, none⟩ (.int .u32 (es : Int))).heap.size := by have := hb34.lt; omega
            have HZ4 := Lib.hid hz4
            clear hk3 hJ3 hb43 hb33 hj4 hka4 hb34 hz4 ks hR
            gi_wp2_with fail
            refine ⟨⟨k + 1, es, Ds', _, _, _, _, _, _, _, _, _, _, _, _, _, _, _, _, _, _, _, _, _, _, _, _, _, _, _, _, _, _, _, _, _, _, _, _, _, _, _, _, _, _, _, _, _, ⟨by omega, .inr ⟨(es, ew), by omega, HNX.out, rfl⟩, HFO.out.2.1, by rw [HTK.out]; exact HJ4.out, HKA4.out, HB34.out, HZ4.out, HND2.out, HDD.out⟩, rfl⟩, ?_⟩
            rw [HCL.out, HB34.out.cell]
            have := HFO.out
            show 1073741825 - (es : Int).toNat < _
            omega
          · have HDS3 : Hid (∀ D ∈ Ds', W.heap.size ≤ D ∧ W3.heap[D]? = some (.deferred (some []))) := fun D hD => by
              have h8 := HDS2.out D hD
              exact ⟨by omega, hk3.oth.same D _ (by omega) h8.2 rfl⟩
            clear hk3 hR
            gi_wp2
            refine leavesM_marksI (B := W.heap.size) (I := fun W' => Jx (L.take k ++ [(es, ew)]) W') (OwnFrom.at_ hJx.own _) Ds' W3 HND2.out HDS3.out hJx3 (fun W' hi => ?_)
            exact ⟨_, results_none rfl _ _ _, ⟨_, rfl⟩, .inr ⟨_, by rw [HLL.out]; exact HPRE.out, hi⟩⟩
        · have hkL : k = L.length := by omega
          rw [List.getElem?_eq_none (by omega), Option.getD_none] at hb4
          have hjl : J L w2 := by
            have h9 := hjw2
            rw [hkL, List.take_length] at h9
            exact h9
          have c40 := hb4.cell 0
          simp [entC] at c40
          have HJL := Lib.hid hjl
          clear hjl hjw2 hb4 hkw2 hb32 hkL
          gi_wp2
          refine ⟨fun f h => (by cases h), ?_⟩
          gi_wp2
          refine leavesM_marksI (B := W.heap.size) (I := fun W' => J L W') (OwnFrom.at_ hJ.own _) Ds' w2 HND2.out (fun D hD => ⟨by have := (HDS2.out D hD).1; omega, (HDS2.out D hD).2⟩) HJL.out (fun W' hi => ?_)
          exact ⟨_, results_none rfl _ _ _, ⟨_, rfl⟩, .inl (by rw [HLL.out]; exact hi)⟩
end Go.Proofs.Yteanpgkonhdbpaa

namespace Go.Proofs.Yteanpgkonhdbpaa
open Go.RowKit
attribute [local go_sem] Oper.semAt_some

theorem slice_entry : SliceOf Try.prog 36 46 2 8 := ⟨Try.underlying36, by kernel_rfl, by decide⟩
/-- 'append(out, x)': either all old blocks are as they were, or there was room. -/
theorem append_keep {P : Program} {t ty e : TypeId} {size bytes : Nat} (hS : SliceOf P t e size bytes) {w : World} {B : Nat} {v : Value} {n : Nat} {xs : List Value} (hown : w.ownsRow B e size v n xs) {a : Addr} {m c : Nat} {news : List Value} (hl : news.length = m * size) (hnews : ∀ j u, news[j]? = some u → w.cell? (a.add j) = some u)
    (hm : 0 < m) (h63 : n + m ≤ maxLen) (hb : (n + m) * bytes ≤ 140737488355328) {v' : Value} {w' : World} (hr : (Builtin.append_ #[t, t] ty #[v, .slice (some a) m c]).run P w = .ok v' w') :
    Keep [] w w' ∨ ∃ g cs cap, v = .slice (some ⟨g, 0, none⟩) n cap ∧ w.heap[g]? = some (.cells cs e (0, 0)) ∧ cs.size = cap * size ∧ n + m ≤ cap := by
  obtain ⟨ht, ⟨i, z, hi, hz, hsz, hby, hzs⟩, hpos⟩ := hS.parts
  have h9 : n + m ≤ 9223372036854775807 := by simp only [maxLen] at h63; omega
  rcases hown.2 with ⟨rfl, rfl⟩ | ⟨g, cap, cur, rfl, _, hh, h1, _, h3, _⟩
  · left
    have h2 := run_append_nil (P := P) w t ty e i z ht hi hz a m c news (by rw [hsz]; exact hl) hnews hm (by omega) (by rw [hby]; simp only [Nat.zero_add] at hb; omega)
    rw [h2] at hr
    cases hr
    exact ((Keep.refl [] w).drew).alloc _
  · by_cases hroom : n + m ≤ cap
    · exact .inr ⟨g, cur, cap, rfl, hh, h3, hroom⟩
    · left
      have h2 := run_append_grow (P := P) w t ty e i z ht hi hz ⟨g, 0, none⟩ n cap xs (by rw [hsz]; exact hown.1) (hown.cells (g := g) rfl) a m c news (by rw [hsz]; exact hl) hnews (by omega) (by omega) (by rw [hby]; exact growslice_fits (by omega) hb)
      rw [h2] at hr
      cases hr
      exact ((Keep.refl [] w).drew).alloc _
section
variable {P : Program} {ops : Array Oper} {rest : List Oper} {o : Oper} {a : Act} {Q : Exit → Act → World → Prop} {wr : World} {e : TypeId} {F : Fence} {n' : Nat}
/-- 'out = append(out, x)' of one element, in a round; what is told of the old blocks besides. -/
theorem wpListIn_append_oneJ {us : List Value}
    (hgd : o.guard = none) (s x : Operand) (t : TypeId) (ho : o.op = .call { callee := .builtin .append, args := #[s, x], argTypes := #[t, t] })
    {size bytes : Nat} (hS : SliceOf P t e size bytes) {B : Nat} {v : Value} {n : Nat} {xs : List Value} (hown : wr.ownsRow B e size v n xs) (hs : a.eval s = v) (hx : a.eval x = .slice (some ⟨wr.heap.size, 0, none⟩) 1 1)
    (hl : us.length = size) (h1 : ∀ u ∈ us, u.oneCell' = true) (hB : B ≤ wr.heap.size) (hb : (n + 1) * bytes ≤ 140737488355328) (h63 : n + 1 ≤ maxLen)
    (h : ∀ v' w', w'.ownsRow B e size v' (n + 1) (xs ++ us) → Keep v.ownBlock.toList wr w' → (Keep [] wr w' ∨ ∃ g cs cap, v = .slice (some ⟨g, 0, none⟩) n cap ∧ wr.heap[g]? = some (.cells cs e (0, 0)) ∧ cs.size = cap * size ∧ n + 1 ≤ cap) → wpListIn F n' P ops Q rest (a.put o.dst v') w') :
    wpListIn F n' P ops Q (o :: rest) a (wr.alloc (.cells us.toArray e)) := by
  obtain ⟨ht, ⟨i, z, hi, hz, hsz, hby, hzs⟩, hpos⟩ := hS.parts
  have hnews : ∀ j u, us[j]? = some u → (wr.alloc (.cells us.toArray e)).cell? ((⟨wr.heap.size, 0, none⟩ : Addr).add j) = some u := by
    intro j u hu
    rw [add_of_block]
    show World.cell? _ _ = _
    simp only [World.cell?, heap_alloc_new]
    simpa using hu
  obtain ⟨v', w', hr, h2, h3, _, _⟩ := run_append_own_at (P := P) (wr.alloc (.cells us.toArray e)) B t o.type e i z size bytes ht hi hz hsz hby hzs hpos v n xs (hown.alloc _) ⟨wr.heap.size, 0, none⟩ 1 1 us (by simpa using hl) hnews h1 h63 hb (by simp; omega)
  have hk := append_keep hS (hown.alloc (.cells us.toArray e)) (by simpa using hl) hnews (by omega) h63 hb hr
  refine wpListIn_plain hgd fun K hK' => ?_
  unfold Oper.wpIn
  refine ⟨?_, ?_⟩
  · simp [Oper.about, ho, resolve, Target.leads, Sem.run_pure]
  · rw [Oper.semAt_plain F _ _ (by rw [ho]; intro c hc'; cases hc')]
    simp [execOp, ho, resolve, invoke, builtin, hs, hx, hr, Result.andThen]
    refine hK' _ _ (h v' w' h2 (((Keep.refl _ wr).alloc _).trans (Keep.of_grown h3) (fun x hx _ => hx)) ?_)
    rcases hk with hk | ⟨g, cs, cap, hv, hg, hc1, hc2⟩
    · exact .inl (((Keep.refl [] wr).alloc _).then hk)
    · refine .inr ⟨g, cs, cap, hv, ?_, hc1, hc2⟩
      have hlt : g < wr.heap.size := by
        rcases hown.2 with ⟨h4, _⟩ | ⟨g', _, _, h4, _, h5, _⟩
        · rw [hv] at h4; cases h4
        · rw [hv] at h4
          cases h4
          exact (Array.getElem?_eq_some_iff.1 h5).1
      rw [← hg]
      exact (Below.heap_alloc wr _ g hlt).symm
end
theorem row_baseJ {w : World} {b0 e size n : Nat} {v : Value} {xs : List Value} (h : w.ownsRow b0 e size v n xs) : ∀ y, y ∈ v.ownBlock.toList → b0 ≤ y := by
  intro y hy
  rcases h.2 with ⟨rfl, _⟩ | ⟨g', cap, cur, rfl, hb, _⟩
  · simp [Value.ownBlock] at hy
  · simp [Value.ownBlock] at hy
    omega
/-- A row of entries of the call's own. -/
def RetEnts (w : World) (L : List (Nat × Nat)) (e : Ending) (w' : World) : Prop :=
  ∃ A c, e = .returned (.slice A L.length c) ∧ w'.ownsRow w.heap.size 46 2 (.slice A L.length c) L.length (L.flatMap entC) ∧ Keep [] w w'
theorem info_entSlice : (Try.prog.info? 36).map (fun i => (i.zero, i.size)) = some (some (.slice none 0 0), 1) := by kernel_rfl

set_option maxRecDepth 100000 in
set_option maxHeartbeats 4000000 in
theorem allHelp_any (gj g b1 b2 : Nat) (d : Dev) (j0 : JS) (w : World) (hj : JrAt w gj g j0) (hd : DevAt w g b1 b2 d) (ho : d.Ok) (hb : j0.base + j0.many ≤ d.ns) (hLn : (sortE (entsJ (ownW d j0.base) j0.many (d.nw / 4))).length ≤ 100000) :
    Calls Try.prog 18 #[.pointer (some ⟨gj, 0, none⟩)] w (RetEnts w (sortE (entsJ (ownW d j0.base) j0.many (d.nw / 4)))) := by
  have hnn := fun f x y => run_neq_func_nil (P := Try.prog) Try.underlying119 f x y
  have HAL := fun W => Lib.hid (all_any0 gj W)
  rw [← callsIn_wide (n := 9)]
  refine callsIn_of_wp_marks Try.func18 rfl trivial ?_ rfl
  simp only [Try.ntmps18, List.size_toArray, List.length_cons, List.length_nil, Nat.reduceAdd, Nat.reduceSub, Array.replicate_succ, Array.replicate_zero, List.push_toArray, List.append_toArray, List.nil_append, List.cons_append]
  gi_wp2_with (refine ⟨trivial, ?_⟩; refine (callsIn_wide.2 (HAL _).out).mono ?_; rintro e w' ⟨rfl, rfl⟩)
  obtain ⟨W0, hW0⟩ : ∃ W0, (w.alloc (.cells #[.slice none 0 0] 36)).alloc (.cells #[.pointer (some ⟨gj, 0, none⟩)] 28) = W0 := ⟨_, rfl⟩
  have K0 : Keep [] w W0 := by rw [← hW0]; exact ((Keep.refl [] w).alloc _).alloc _
  have b0 : Blk W0 w.heap.size 36 #[.slice none 0 0] := by rw [← hW0]; exact (Blk.new _ _ _).alloc _
  have b1' : Blk W0 (w.heap.size + 1) 28 #[.pointer (some ⟨gj, 0, none⟩)] := by
    have := Blk.new (w.alloc (.cells #[.slice none 0 0] 36)) 28 #[.pointer (some ⟨gj, 0, none⟩)]
    rw [show (w.alloc (.cells #[.slice none 0 0] 36)).heap.size = w.heap.size + 1 by simp, hW0] at this
    exact this
  have hz0 : W0.heap.size = w.heap.size + 2 := by rw [← hW0]; simp
  rw [hW0]
  clear hW0
  have hseq := all1_seq 8 gj g b1 b2 d j0 (w.heap.size + 1) W0 (hj.keep0 K0) (hd.keep0 K0) ho hb b1'
  have hlts : ∀ x ∈ [w.heap.size + 1, gj, g, b1, b2], x < W0.heap.size ∧ x ≠ w.heap.size := fun x hx => by
    have e1 := hj.blk.lt
    have e2 := hd.dev.lt
    have e3 := hd.bits.lt
    have e4 := hd.worn.lt
    simp only [List.mem_cons, List.not_mem_nil, or_false] at hx
    omega
  have HLT := Lib.hid hlts
  have hgjn : gj ≠ w.heap.size := (hlts gj (by simp)).2
  generalize sortE (entsJ (ownW d j0.base) j0.many (d.nw / 4)) = L at *
  have HLN := Lib.hid hLn
  clear hLn hj hd ho hb hlts
  refine wpIn_rangeB (F := Fence.wide) (n := 9) (Lo := LoU (W0.heap.size + 2)) (ps := #[11]) rfl (by omega) (gf := 99) (lb := #[.pointer (some ⟨w.heap.size + 1, 0, none⟩)]) rfl trivial (enters_of Try.func99 (by kernel_rfl) rfl)
    hseq KA.trans (fun W o o' ho hc => KA.turn (fun hm => by have := HLT.out _ hm; omega) (by omega) o' ho hc) (Below.refl _ _) (fun _ => rfl)
    (fun pre W => ∃ v, W.ownsRow W0.heap.size 46 2 v pre.length (pre.flatMap entC) ∧ (pre = [] → v = .slice none 0 0) ∧ Blk W w.heap.size 36 #[v] ∧ Keep [w.heap.size] W0 W)
    (fun _ _ _ => False) ?hI ?hIx ⟨_, World.ownsRow_nil _ _ _ _, fun _ => rfl, b0, Keep.refl _ _⟩
    (fun x a1 W => ∃ g5 : Nat, Blk W g5 46 (entC x).toArray ∧ a1 = { tmps := #[.pointer (some ⟨gj, 0, none⟩), undef, .slice none 0 0, .pointer (some ⟨w.heap.size, 0, none⟩), .func (.func 99) #[] #[.pointer (some ⟨w.heap.size + 1, 0, none⟩)], .pointer (some ⟨g5, 0, none⟩), .pointer (some ⟨gj, 0, none⟩),
      .func (.func 99) #[] #[.pointer (some ⟨w.heap.size + 1, 0, none⟩)], .func (.func 99) #[] #[.pointer (some ⟨w.heap.size + 1, 0, none⟩)], .bool true, .func (.func 99) #[] #[.pointer (some ⟨w.heap.size + 1, 0, none⟩)], .agg (entC x).toArray, undef, undef, undef, undef, undef], defers := [] })
    ?hPA (fun W W2 hW hk => KA.keep0 hk (fun x hx => by have := (HLT.out x hx).1; omega)) ?assign ?body ?done ?stop
  case hI =>
    rintro pre X Y row ⟨v, h1, h2, h3, h4⟩ hg hr
    have k := Keep.of_grown hg
    have hno : ∀ y t cs, t ≠ 33 → Blk X y t cs → y ∉ row.toList := fun y t cs ht hbk hm => by
      obtain ⟨o, e, ⟨_, hc⟩ | ⟨_, _, cs', fr, rfl⟩⟩ := hr y (by simpa using hm)
      · rw [show X.heap[y]? = _ from hbk] at e; cases e; cases hc
      · rw [show X.heap[y]? = _ from hbk] at e; cases e; exact ht rfl
    refine ⟨v, own_keep h1 k (fun y hy hm => ?_), h2, h3.keep k (hno _ _ _ (by decide) h3), h4.trans k (fun y hy hlt => ?_)⟩
    · obtain ⟨cs, fr, hh⟩ := row_typed h1 y (by simp [hy])
      obtain ⟨o, e, ⟨_, hc⟩ | ⟨_, _, cs', fr', rfl⟩⟩ := hr y (by simpa using hm)
      · rw [hh] at e; cases e; cases hc
      · rw [hh] at e; cases e
    · obtain ⟨o, e, ⟨h5, hc⟩ | ⟨_, h5, cs', fr', rfl⟩⟩ := hr y (by simpa using hy)
      · omega
      · omega
  case hIx => exact fun _ _ _ _ _ hs _ _ => hs.elim
  case hPA =>
    rintro x a1 _ X Y row ⟨g5, h1, h2⟩ hg hr
    exact ⟨g5, blk_own (β := Unit) _ _ (fun _ => _) () X Y row h1 hg hr, h2⟩
  case assign =>
    rintro l x W K' hW hK'
    gi_wp2_with (refine stopIn_store 46 (.tmp 5) (.tmp 11) rfl ?_)
    constructor
    refine wpListIn_store_all rfl 46 (.tmp 5) (.tmp 11) rfl rfl rfl (vs := entC x) agg_entry.2 (Blk.new _ _ _) (entC_one _) rfl ?_
    intro W1 d1 kk1
    have kr : Keep [] W W1 := ((Keep.refl [] W).alloc _).trans kk1 (fun y hy h => by simp at hy h; omega)
    gi_wp2
    exact hK' _ _ kr ⟨_, d1, rfl⟩
  case body =>
    rintro l pre x a1 W hW ⟨v, hrow, hnil, hv, hK⟩ ⟨g5, hb5, rfl⟩ hpre
    have hlen : pre.length + 1 ≤ L.length := by have := hpre.length_le; simpa using this
    have hc := hv.cell 0
    simp at hc
    have c50 := hb5.cell 0
    have c51 := hb5.cell 1
    simp [entC] at c50 c51
    obtain ⟨A, c, rfl⟩ := own_shape hrow
    have hne := own_blk_ne hrow hv (by decide)
    have hL1 := HLN.out
    have HPR := Lib.hid hrow
    have HV := Lib.hid hv
    have HK := Lib.hid hK
    have HNIL := Lib.hid hnil
    obtain ⟨xs, xw⟩ := x
    dsimp only at c50 c51
    have hB : W0.heap.size ≤ W.heap.size := by omega
    clear hK hv hnil hpre
    gi_wp2_with (gi_at_builtin; refine wpListIn_append_oneJ rfl (.tmp 12) (.tmp 14) 36 rfl slice_entry hrow rfl rfl (us := entC (xs, xw)) rfl (entC_one _) hB (by omega) (by unfold maxLen; omega) ?_; intro v' w1 hown1 hk1 hkk; obtain ⟨A', c', rfl⟩ := own_shape hown1; have hv1 := HV.out.keep hk1 (by simpa using hne); have hc1 := hv1.cell 0; have hf1 := hv1.frozen 0; simp at hc1)
    obtain ⟨n1, n2, n3⟩ := boxed_append HPR.out HV.out (by decide) hk1 hown1
    have hob := row_baseJ HPR.out
    have hW1 : KeepsFrom W0.heap.size W (w1.setCell ⟨w.heap.size, 0, none⟩ (.slice A' (pre.length + 1) c')) := n3.from (fun y hy => by
      rcases List.mem_cons.1 hy with rfl | hy
      · exact .inl (by omega)
      · obtain ⟨cs, fr, hh⟩ := row_typed HPR.out y hy
        exact .inr ⟨_, _, _, hh⟩)
    have ks := keep_set w1 w.heap.size 0 (.slice A' (pre.length + 1) c')
    have hW2 : KA (W0.heap.size + 2) [w.heap.size + 1, gj, g, b1, b2] gj g j0.base W (w1.setCell ⟨w.heap.size, 0, none⟩ (.slice A' (pre.length + 1) c')) := by
      have hbx : ∃ (cs : Array Value) (t : Nat) (fr : Nat × Nat), W.heap[w.heap.size]? = some (.cells cs t fr) ∧ t ≠ 33 ∧ (t = 46 → cs.size ≠ 2) := ⟨_, _, _, HV.out, by decide, fun h => absurd h (by decide)⟩
      rcases hkk with h0 | ⟨g6, cs, cap, hv6, hg6, hcs, hcap⟩
      · refine KA.keep (F := [w.heap.size]) ((h0.mono (by simp)).trans ks (fun y hy _ => hy)) (fun x hx => ⟨by have := (HLT.out x hx).1; omega, by simp; exact (HLT.out x hx).2⟩) (by simp; exact hgjn) (fun x hx _ => ?_)
        simp at hx
        subst hx
        exact hbx
      · have hb6 : W0.heap.size ≤ g6 := hob g6 (by rw [hv6]; simp [Value.ownBlock])
        refine KA.keep (F := [w.heap.size, g6]) (n3.mono (fun y hy _ => by rw [hv6] at hy; simpa [Value.ownBlock] using hy)) (fun x hx => ⟨by have := (HLT.out x hx).1; omega, by have := HLT.out x hx; simp; omega⟩) (by have := HLT.out gj (by simp); simp; omega) (fun x hx _ => ?_)
        simp only [List.mem_cons, List.not_mem_nil, or_false] at hx
        rcases hx with rfl | rfl
        · exact hbx
        · refine ⟨_, _, _, hg6, by decide, fun _ => ?_⟩
          have hp : pre.length ≠ 0 := fun h0 => by
            have := HNIL.out (List.length_eq_zero_iff.1 h0)
            rw [hv6] at this
            cases this
          omega
    refine ⟨hW1, hW2, .slice A' (pre.length + 1) c', ?_, fun h => absurd h (by simp), n1, HK.out.trans n3 (fun y hy hlt => ?_)⟩
    · rw [List.flatMap_append]
      simpa using n2
    · rcases List.mem_cons.1 hy with rfl | hy
      · simp
      · have := hob y hy
        omega
  case done =>
    rintro D W hD ⟨v, hrow, hnil, hv, hK⟩ hD2
    have hc := hv.cell 0
    simp at hc
    obtain ⟨A, c, rfl⟩ := own_shape hrow
    have HR := Lib.hid hrow
    have HK := Lib.hid hK
    clear hrow hnil hv hK
    gi_wp2
    refine leavesM_marksJ [D] W (by simp) (fun D' hD' => by simp at hD'; subst hD'; exact hD2) (fun W' hk => ?_)
    have hne : ∀ y, (Value.slice A L.length c).ownBlock = some y → y ∉ [D] := fun y hy hm => by
      simp at hm
      subst hm
      obtain ⟨cs, fr, hh⟩ := row_typed HR.out y (by simp [hy])
      rw [hD2] at hh
      cases hh
    exact ⟨_, by simp [results, Try.results18, go_sem], A, c, rfl, own_base (own_keep HR.out hk hne) (by omega), (K0.trans HK.out (fun y hy hlt => by simp at hy; omega)).trans hk (fun y hy hlt => by simp at hy; omega)⟩
  case stop =>
    rintro D c pre W _ hpre hF _
    exact hF.elim
end Go.Proofs.Yteanpgkonhdbpaa
