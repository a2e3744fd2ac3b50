/- The journal in plain words: what a place says, where the next entry goes, and what an addition does to it, wholly or not. No condition. -/
import Derived.Test.YteanpgkonhdbpaaBase
namespace Go.Proofs.Yteanpgkonhdbpaa

/-- The words of all sectors: of sector s the word q. -/
abbrev Wds := Nat → Nat → Nat
def onesJ : Nat := 4294967295
/-- Two words that belong together. -/
def twinJ (a b : Nat) : Bool := b == 4294967295 - a
/-- The entry of four words. -/
def ent4 (a b c e : Nat) : Option (Nat × Nat) := if twinJ a b = true ∧ twinJ c e = true ∧ c ≠ 0 ∧ c ≤ 1073741824 then some (c, a) else none
def entJ (W : Wds) (s a : Nat) : Option (Nat × Nat) := ent4 (W s (a * 4)) (W s (a * 4 + 1)) (W s (a * 4 + 2)) (W s (a * 4 + 3))
def blank4 (W : Wds) (s a : Nat) : Bool := W s (a * 4) == 4294967295 && W s (a * 4 + 1) == 4294967295 && W s (a * 4 + 2) == 4294967295 && W s (a * 4 + 3) == 4294967295
/-- A sector's entries, with their places. -/
def sectE (W : Wds) (s K : Nat) : List (Nat × (Nat × Nat)) := (List.range K).filterMap fun a => (entJ W s a).map fun e => (a, e)
/-- Where the next entry goes, as far as one has looked: its number, a sector, a place. -/
def seeJ (s : Nat) (st : Nat × Nat × Nat) (x : Nat × (Nat × Nat)) : Nat × Nat × Nat := if st.1 ≤ x.2.1 then (x.2.1 + 1, s, x.1 + 1) else st
def foldJ (W : Wds) (K : Nat) : Nat → Nat × Nat × Nat
  | 0 => (1, 0, 0)
  | s + 1 => (sectE W s K).foldl (seeJ s) (foldJ W K s)
/-- The next blank place from one on. -/
def skipJ (W : Wds) (s K : Nat) : Nat → Nat → Nat
  | 0, a => a
  | f + 1, a => if a < K ∧ blank4 W s a = false then skipJ W s K f (a + 1) else a
def openJ (W : Wds) (m K : Nat) : Nat × Nat × Nat := let r := foldJ W K m; (r.1, r.2.1, skipJ W r.2.1 K K r.2.2)

theorem mem_sectE {W : Wds} {s K : Nat} {x : Nat × (Nat × Nat)} : x ∈ sectE W s K ↔ x.1 < K ∧ entJ W s x.1 = some x.2 := by
  unfold sectE
  rw [List.mem_filterMap]
  constructor
  · rintro ⟨a, ha, h⟩
    rw [Option.map_eq_some_iff] at h
    obtain ⟨e, he, rfl⟩ := h
    exact ⟨List.mem_range.1 ha, he⟩
  · rintro ⟨h1, h2⟩
    exact ⟨x.1, List.mem_range.2 h1, by rw [h2]; rfl⟩
/-- What the look at all places finds: a number over all that are there; the place behind the greatest one, if any is there. -/
structure FoundJ (W : Wds) (K : Nat) (m : Nat) (r : Nat × Nat × Nat) : Prop where
  over : ∀ s a e, s < m → a < K → entJ W s a = some e → e.1 < r.1
  at_ : r = (1, 0, 0) ∧ (∀ s a, s < m → a < K → entJ W s a = none) ∨ ∃ a e, r.2.1 < m ∧ a < K ∧ r.2.2 = a + 1 ∧ entJ W r.2.1 a = some e ∧ r.1 = e.1 + 1
theorem ent4_pos {a b c e : Nat} {x : Nat × Nat} (h : ent4 a b c e = some x) : 1 ≤ x.1 ∧ x.1 ≤ 1073741824 ∧ x = (c, a) ∧ b = 4294967295 - a ∧ e = 4294967295 - c := by
  unfold ent4 twinJ at h
  split at h
  · rename_i hc
    cases h
    obtain ⟨h1, h2, h3, h4⟩ := hc
    simp only [beq_iff_eq] at h1 h2
    exact ⟨by omega, h4, rfl, h1, h2⟩
  · cases h
theorem seeJ_fold (s : Nat) : ∀ (l : List (Nat × (Nat × Nat))) (st : Nat × Nat × Nat), st.1 ≤ (l.foldl (seeJ s) st).1 ∧ (∀ x ∈ l, x.2.1 < (l.foldl (seeJ s) st).1) ∧ (l.foldl (seeJ s) st = st ∨ ∃ x ∈ l, l.foldl (seeJ s) st = (x.2.1 + 1, s, x.1 + 1))
  | [], st => ⟨Nat.le_refl _, fun _ h => (by cases h), .inl rfl⟩
  | x :: l, st => by
    obtain ⟨h1, h2, h3⟩ := seeJ_fold s l (seeJ s st x)
    rw [List.foldl_cons]
    have hst : st.1 ≤ (seeJ s st x).1 ∧ x.2.1 < (seeJ s st x).1 := by
      unfold seeJ
      split
      · exact ⟨by dsimp only; omega, Nat.lt_succ_self _⟩
      · exact ⟨Nat.le_refl _, by omega⟩
    refine ⟨Nat.le_trans hst.1 h1, fun y hy => ?_, ?_⟩
    · rcases List.mem_cons.1 hy with rfl | hy
      · exact Nat.lt_of_lt_of_le hst.2 h1
      · exact h2 y hy
    · rcases h3 with h3 | ⟨y, hy, h3⟩
      · rw [h3]
        unfold seeJ
        split
        · exact .inr ⟨x, by simp, rfl⟩
        · exact .inl rfl
      · exact .inr ⟨y, by simp [hy], h3⟩
theorem foundJ (W : Wds) (K : Nat) : ∀ m, FoundJ W K m (foldJ W K m)
  | 0 => ⟨fun _ _ _ h => absurd h (Nat.not_lt_zero _), .inl ⟨rfl, fun _ _ h => absurd h (Nat.not_lt_zero _)⟩⟩
  | m + 1 => by
    obtain ⟨h1, h2⟩ := foundJ W K m
    obtain ⟨g1, g2, g3⟩ := seeJ_fold m (sectE W m K) (foldJ W K m)
    show FoundJ W K (m + 1) ((sectE W m K).foldl (seeJ m) (foldJ W K m))
    refine ⟨fun s a e hs ha he => ?_, ?_⟩
    · rcases Nat.lt_succ_iff_lt_or_eq.1 hs with hs | rfl
      · exact Nat.lt_of_lt_of_le (h1 s a e hs ha he) g1
      · exact g2 (a, e) (mem_sectE.2 ⟨ha, he⟩)
    · rcases g3 with g3 | ⟨x, hx, g3⟩
      · rw [g3]
        rcases h2 with ⟨h2, h3⟩ | ⟨a, e, q1, q2, q3, q4, q5⟩
        · refine .inl ⟨h2, fun s a hs ha => ?_⟩
          rcases Nat.lt_succ_iff_lt_or_eq.1 hs with hs | rfl
          · exact h3 s a hs ha
          · cases he : entJ W s a with
            | none => rfl
            | some e =>
              have := g2 (a, e) (mem_sectE.2 ⟨ha, he⟩)
              rw [g3, h2] at this
              have := (ent4_pos he).1
              dsimp only at *
              omega
        · exact .inr ⟨a, e, by omega, q2, q3, q4, q5⟩
      · rw [g3]
        obtain ⟨k1, k2⟩ := mem_sectE.1 hx
        exact .inr ⟨x.1, x.2, Nat.lt_succ_self _, k1, rfl, k2, rfl⟩
theorem foldJ_pos (W : Wds) (K m : Nat) : 1 ≤ (foldJ W K m).1 := by
  rcases (foundJ W K m).at_ with ⟨h, _⟩ | ⟨a, e, _, _, _, h, h2⟩
  · rw [h]; decide
  · rw [h2]; omega
/-- With numbers that are all apart, what is found is settled by what is there. -/
def Apart (W : Wds) (m K : Nat) : Prop := ∀ s a e s' a' e', s < m → a < K → s' < m → a' < K → entJ W s a = some e → entJ W s' a' = some e' → e.1 = e'.1 → s = s' ∧ a = a'
theorem found_one {W : Wds} {m K : Nat} (h : Apart W m K) {r r' : Nat × Nat × Nat} (h1 : FoundJ W K m r) (h2 : FoundJ W K m r') : r = r' := by
  rcases h1.at_ with ⟨e1, n1⟩ | ⟨a, e, q1, q2, q3, q4, q5⟩
  · rcases h2.at_ with ⟨e2, _⟩ | ⟨a, e, q1, q2, q3, q4, q5⟩
    · rw [e1, e2]
    · rw [n1 _ _ q1 q2] at q4; cases q4
  · rcases h2.at_ with ⟨_, n1⟩ | ⟨a', e', p1, p2, p3, p4, p5⟩
    · rw [n1 _ _ q1 q2] at q4; cases q4
    · have g1 := h1.over _ _ _ p1 p2 p4
      have g2 := h2.over _ _ _ q1 q2 q4
      obtain ⟨g3, g4⟩ := h _ _ _ _ _ _ q1 q2 p1 p2 q4 p4 (by omega)
      have g5 : r.1 = r'.1 := by omega
      have g6 : r.2.2 = r'.2.2 := by omega
      obtain ⟨x, y, z⟩ := r
      obtain ⟨x', y', z'⟩ := r'
      dsimp only at g3 g5 g6
      rw [g3, g5, g6]
theorem skipJ_to {W : Wds} {s K : Nat} {u : Nat} (hu : u ≤ K) (hb : u < K → blank4 W s u = true) : ∀ (f a : Nat), a ≤ u → u ≤ a + f → (∀ b, a ≤ b → b < u → blank4 W s b = false) → skipJ W s K f a = u
  | 0, a, h1, h2, _ => by
    have : a = u := by omega
    rw [this]; rfl
  | f + 1, a, h1, h2, h3 => by
    rw [skipJ]
    by_cases h : a = u
    · subst h
      rw [if_neg (fun hh => by rw [hb hh.1] at hh; cases hh.2)]
    · rw [if_pos ⟨by omega, h3 a (Nat.le_refl _) (by omega)⟩]
      exact skipJ_to hu hb f (a + 1) (by omega) (by omega) (fun b g1 g2 => h3 b (by omega) g2)
theorem skipJ_spec {W : Wds} {s K : Nat} : ∀ (f a : Nat), a ≤ K → K ≤ a + f → a ≤ skipJ W s K f a ∧ skipJ W s K f a ≤ K ∧ (skipJ W s K f a < K → blank4 W s (skipJ W s K f a) = true) ∧ ∀ b, a ≤ b → b < skipJ W s K f a → blank4 W s b = false
  | 0, a, h1, h2 => ⟨Nat.le_refl _, h1, fun h => by simp only [skipJ] at h; omega, fun b g1 g2 => by simp only [skipJ] at g2; omega⟩
  | f + 1, a, h1, h2 => by
    rw [skipJ]
    by_cases h : a < K ∧ blank4 W s a = false
    · rw [if_pos h]
      obtain ⟨g1, g2, g3, g4⟩ := skipJ_spec (W := W) (s := s) (K := K) f (a + 1) (by omega) (by omega)
      refine ⟨by omega, g2, g3, fun b k1 k2 => ?_⟩
      by_cases hb : b = a
      · rw [hb]; exact h.2
      · exact g4 b (by omega) k2
    · rw [if_neg h]
      refine ⟨Nat.le_refl _, h1, fun hk => ?_, fun b k1 k2 => by omega⟩
      cases hb : blank4 W s a with
      | true => rfl
      | false => exact absurd ⟨hk, hb⟩ h

/-! Bits. -/
theorem ones_bit (i : Nat) : (4294967295 : Nat).testBit i = decide (i < 32) := by
  have : (4294967295 : Nat) = 2 ^ 32 - 1 := rfl
  rw [this, Nat.testBit_two_pow_sub_one]
theorem cpl_bit {a : Nat} (h : a < 4294967296) (i : Nat) : (4294967295 - a).testBit i = (decide (i < 32) && !a.testBit i) := by
  have : 4294967295 - a = 2 ^ 32 - (a + 1) := by omega
  rw [this, Nat.testBit_two_pow_sub_succ (by omega)]
theorem bit_hi {a : Nat} (h : a < 4294967296) {i : Nat} (hi : 32 ≤ i) : a.testBit i = false := Nat.testBit_lt_two_pow (Nat.lt_of_lt_of_le h (Nat.pow_le_pow_right (n := 2) (by omega) hi : 2 ^ 32 ≤ 2 ^ i))
/-- Two words that cover all bits, of which bits are set, belong together only if they stay as they were. -/
theorem twin_rise {a b x y : Nat} (ha : a < 4294967296) (hb : b < 4294967296) (hx : x < 4294967296) (hy : y < 4294967296) (hc : a ||| b = 4294967295) (hax : a ||| x = x) (hby : b ||| y = y) (ht : y = 4294967295 - x) : x = a ∧ y = b := by
  have key : ∀ i, x.testBit i = a.testBit i ∧ y.testBit i = b.testBit i := fun i => by
    rcases Nat.lt_or_ge i 32 with h | h
    · have h1 := congrArg (fun n => Nat.testBit n i) hc
      have h2 := congrArg (fun n => Nat.testBit n i) hax
      have h3 := congrArg (fun n => Nat.testBit n i) hby
      have h4 := congrArg (fun n => Nat.testBit n i) ht
      simp only [Nat.testBit_or, ones_bit, cpl_bit hx, decide_eq_true h, Bool.true_and] at h1 h2 h3 h4
      revert h1 h2 h3 h4
      cases a.testBit i <;> cases b.testBit i <;> cases x.testBit i <;> cases y.testBit i <;> simp
    · rw [bit_hi ha h, bit_hi hb h, bit_hi hx h, bit_hi hy h]; exact ⟨rfl, rfl⟩
  exact ⟨Nat.eq_of_testBit_eq fun i => (key i).1, Nat.eq_of_testBit_eq fun i => (key i).2⟩
theorem or_ones {a : Nat} (h : a < 4294967296) : a ||| 4294967295 = 4294967295 := by
  apply Nat.eq_of_testBit_eq
  intro i
  rw [Nat.testBit_or, ones_bit]
  rcases Nat.lt_or_ge i 32 with g | g
  · simp [g]
  · rw [bit_hi h g]; rfl
theorem ones_or {a : Nat} (h : a < 4294967296) : 4294967295 ||| a = 4294967295 := by rw [Nat.or_comm, or_ones h]
theorem or_cpl {a : Nat} (h : a < 4294967296) : a ||| (4294967295 - a) = 4294967295 := by
  apply Nat.eq_of_testBit_eq
  intro i
  rw [Nat.testBit_or, cpl_bit h, ones_bit]
  rcases Nat.lt_or_ge i 32 with g | g
  · simp [g]
  · simp [bit_hi h g, Nat.not_lt.2 g]
theorem cover_up {a b x y : Nat} (hx : x < 4294967296) (hy : y < 4294967296) (hc : a ||| b = 4294967295) (hax : a ||| x = x) (hby : b ||| y = y) : x ||| y = 4294967295 := by
  rw [← hax, ← hby, show (a ||| x) ||| (b ||| y) = (a ||| b) ||| (x ||| y) by rw [Nat.or_assoc, ← Nat.or_assoc x b y, Nat.or_comm x b, Nat.or_assoc b, ← Nat.or_assoc a b], hc, ones_or (Nat.or_lt_two_pow (n := 32) hx hy)]

/-! The journal's words, and what keeps them. -/
theorem ent_blank {W : Wds} {s a : Nat} (h : blank4 W s a = true) : entJ W s a = none := by
  unfold blank4 at h
  simp only [Bool.and_eq_true, beq_iff_eq] at h
  obtain ⟨⟨⟨h1, h2⟩, h3⟩, h4⟩ := h
  unfold entJ ent4
  rw [h1, h2, h3, h4]
  decide
/-- A place is behind another by so many places, in the ring. -/
def idxJ (N M q : Nat) : Nat := if q + 1 ≤ N then N - (q + 1) else N + M - (q + 1)
def entN (W : Wds) (K n : Nat) : Option (Nat × Nat) := entJ W (n / K) (n % K)
abbrev Att := Bool × (Nat × Nat)
/-- The places that were filled, the newest first: each of the last ones that was filled surely is there. -/
structure Ring (W : Wds) (m K c u : Nat) (R : List Att) (sure : List (Nat × Nat)) (cut : Nat) : Prop where
  c_lt : c < m
  u_le : u ≤ K
  blank : ∀ a, u ≤ a → a < K → blank4 W c a = true
  oks : sure = ((R.filter (·.1)).map (·.2)).reverse
  bad : (R.filter (fun x => !x.1)).length ≤ cut
  at_ : ∀ q e, q < (m - 1) * K → R[q]? = some (true, e) → entN W K (idxJ (c * K + u) (m * K) q) = some e
structure JInv (W : Wds) (m K : Nat) (put sure : List (Nat × Nat)) (cut : Nat) : Prop where
  m2 : 2 ≤ m
  k1 : 1 ≤ K
  lt : ∀ s q, s < m → q < K * 4 → W s q < 4294967296
  cov : ∀ s a, s < m → a < K → W s (a * 4) ||| W s (a * 4 + 1) = 4294967295 ∧ W s (a * 4 + 2) ||| W s (a * 4 + 3) = 4294967295
  put_ : ∀ s a e, s < m → a < K → entJ W s a = some e → e ∈ put
  apart : Apart W m K
  ring : ∃ R, Ring W m K (openJ W m K).2.1 (openJ W m K).2.2 R sure cut
theorem ring_cut {W : Wds} {m K c u : Nat} {R : List Att} {sure : List (Nat × Nat)} {cut cut' : Nat} (h : Ring W m K c u R sure cut) (hc : cut ≤ cut') : Ring W m K c u R sure cut' := ⟨h.c_lt, h.u_le, h.blank, h.oks, Nat.le_trans h.bad hc, h.at_⟩
theorem JInv.more {W : Wds} {m K cut cut' : Nat} {put sure : List (Nat × Nat)} (h : JInv W m K put sure cut) (x : Nat × Nat) (hc : cut ≤ cut') : JInv W m K (put ++ [x]) sure cut' :=
  ⟨h.m2, h.k1, h.lt, h.cov, fun s a e h1 h2 h3 => List.mem_append_left _ (h.put_ s a e h1 h2 h3), h.apart, h.ring.imp fun _ hr => ring_cut hr hc⟩
theorem open_lt {W : Wds} {m K cut : Nat} {put sure : List (Nat × Nat)} (_h : JInv W m K put sure cut) : ∀ s a e, s < m → a < K → entJ W s a = some e → e.1 < (openJ W m K).1 := (foundJ W K m).over
theorem found_at {W : Wds} {m K : Nat} (hm : 2 ≤ m) : (foldJ W K m).2.1 < m ∧ (foldJ W K m).2.2 ≤ K := by
  rcases (foundJ W K m).at_ with ⟨h, _⟩ | ⟨a, e, h1, h2, h3, _⟩
  · rw [h]; exact ⟨by dsimp only; omega, Nat.zero_le _⟩
  · exact ⟨h1, by omega⟩
/-- Where the words' entries are fewer, and the last one is there still, the look at all places finds the same. -/
theorem fold_same {W W' : Wds} {m K : Nat} (hA : Apart W m K) (h1 : ∀ s a e, s < m → a < K → entJ W' s a = some e → entJ W s a = some e) (h2 : ∀ a, a < K → entJ W' (foldJ W K m).2.1 a = entJ W (foldJ W K m).2.1 a) : foldJ W' K m = foldJ W K m ∧ Apart W' m K := by
  have hA' : Apart W' m K := fun s a e s' a' e' g1 g2 g3 g4 g5 g6 g7 => hA s a e s' a' e' g1 g2 g3 g4 (h1 _ _ _ g1 g2 g5) (h1 _ _ _ g3 g4 g6) g7
  have hF := foundJ W K m
  refine ⟨found_one hA' (foundJ W' K m) ⟨fun s a e g1 g2 g3 => hF.over s a e g1 g2 (h1 _ _ _ g1 g2 g3), ?_⟩, hA'⟩
  rcases hF.at_ with ⟨e, hn⟩ | ⟨a, e, q1, q2, q3, q4, q5⟩
  · refine .inl ⟨e, fun s a g1 g2 => ?_⟩
    cases he : entJ W' s a with
    | none => rfl
    | some x => have := h1 _ _ _ g1 g2 he; rw [hn s a g1 g2] at this; cases this
  · exact .inr ⟨a, e, q1, q2, q3, (h2 a q2).trans q4, q5⟩
/-- A new entry with a number over all others. -/
theorem fold_new {W W' : Wds} {m K c u : Nat} {x : Nat × Nat} (hA : Apart W m K) (hc : c < m) (hu : u < K) (hx : x.1 = (foldJ W K m).1) (h0 : entJ W' c u = some x) (h1 : ∀ s a e, s < m → a < K → ¬ (s = c ∧ a = u) → entJ W' s a = some e → entJ W s a = some e) : foldJ W' K m = (x.1 + 1, c, u + 1) ∧ Apart W' m K := by
  have hF := foundJ W K m
  have hlt : ∀ s a e, s < m → a < K → ¬ (s = c ∧ a = u) → entJ W' s a = some e → e.1 < x.1 := fun s a e g1 g2 g3 g4 => by rw [hx]; exact hF.over s a e g1 g2 (h1 _ _ _ g1 g2 g3 g4)
  have hA' : Apart W' m K := fun s a e s' a' e' g1 g2 g3 g4 g5 g6 g7 => by
    by_cases k1 : s = c ∧ a = u
    · by_cases k2 : s' = c ∧ a' = u
      · exact ⟨k1.1.trans k2.1.symm, k1.2.trans k2.2.symm⟩
      · have := hlt _ _ _ g3 g4 k2 g6
        rw [k1.1, k1.2, h0] at g5
        cases g5
        omega
    · by_cases k2 : s' = c ∧ a' = u
      · have := hlt _ _ _ g1 g2 k1 g5
        rw [k2.1, k2.2, h0] at g6
        cases g6
        omega
      · exact hA s a e s' a' e' g1 g2 g3 g4 (h1 _ _ _ g1 g2 k1 g5) (h1 _ _ _ g3 g4 k2 g6) g7
  refine ⟨found_one hA' (foundJ W' K m) ⟨fun s a e g1 g2 g3 => ?_, .inr ⟨u, x, hc, hu, rfl, h0, rfl⟩⟩, hA'⟩
  by_cases k1 : s = c ∧ a = u
  · rw [k1.1, k1.2, h0] at g3
    cases g3
    exact Nat.lt_succ_self _
  · exact Nat.lt_succ_of_lt (hlt _ _ _ g1 g2 k1 g3)
theorem flat_ne {K s a c u : Nat} (hK : 1 ≤ K) (h : ¬ ((s * K + a) / K = c ∧ (s * K + a) % K = u)) (ha : a < K) : ¬ (s = c ∧ a = u) := fun ⟨h1, h2⟩ => h (by
  rw [Nat.mul_comm, Nat.mul_add_div hK, Nat.div_eq_of_lt ha, Nat.mul_add_mod, Nat.mod_eq_of_lt ha]
  exact ⟨by omega, h2⟩)
theorem flat_at {K n c u : Nat} (h1 : n / K = c) (h2 : n % K = u) : n = c * K + u := by
  have := Nat.div_add_mod n K
  rw [h1, h2, Nat.mul_comm] at this
  exact this.symm
theorem flat_div {K c u : Nat} (hK : 1 ≤ K) (hu : u < K) : (c * K + u) / K = c ∧ (c * K + u) % K = u := by
  rw [Nat.mul_comm, Nat.mul_add_div hK, Nat.div_eq_of_lt hu, Nat.mul_add_mod, Nat.mod_eq_of_lt hu]
  exact ⟨by omega, rfl⟩

/-- All words but a place's are as they were. -/
def SetIn (W W' : Wds) (m K s a : Nat) : Prop := ∀ s' q, s' < m → q < K * 4 → ¬ (s' = s ∧ a * 4 ≤ q ∧ q < a * 4 + 4) → W' s' q = W s' q
theorem SetIn.ent {W W' : Wds} {m K s a : Nat} (h : SetIn W W' m K s a) {s' a' : Nat} (h1 : s' < m) (h2 : a' < K) (h3 : ¬ (s' = s ∧ a' = a)) : entJ W' s' a' = entJ W s' a' := by
  have g : ∀ i, i < 4 → W' s' (a' * 4 + i) = W s' (a' * 4 + i) := fun i hi => h s' _ h1 (by omega) (fun ⟨k1, k2, k3⟩ => h3 ⟨k1, by omega⟩)
  have g0 := g 0 (by decide)
  rw [Nat.add_zero] at g0
  unfold entJ
  rw [g0, g 1 (by decide), g 2 (by decide), g 3 (by decide)]
theorem SetIn.blank {W W' : Wds} {m K s a : Nat} (h : SetIn W W' m K s a) {s' a' : Nat} (h1 : s' < m) (h2 : a' < K) (h3 : ¬ (s' = s ∧ a' = a)) : blank4 W' s' a' = blank4 W s' a' := by
  have g : ∀ i, i < 4 → W' s' (a' * 4 + i) = W s' (a' * 4 + i) := fun i hi => h s' _ h1 (by omega) (fun ⟨k1, k2, k3⟩ => h3 ⟨k1, by omega⟩)
  have g0 := g 0 (by decide)
  rw [Nat.add_zero] at g0
  unfold blank4
  rw [g0, g 1 (by decide), g 2 (by decide), g 3 (by decide)]
/-- A place's words as they may be. -/
structure SlotOk (W : Wds) (s a : Nat) : Prop where
  lt : ∀ i, i < 4 → W s (a * 4 + i) < 4294967296
  cov1 : W s (a * 4) ||| W s (a * 4 + 1) = 4294967295
  cov2 : W s (a * 4 + 2) ||| W s (a * 4 + 3) = 4294967295
/-- All but the ring. -/
structure JB (W : Wds) (m K : Nat) (put : List (Nat × Nat)) : Prop where
  m2 : 2 ≤ m
  k1 : 1 ≤ K
  lt : ∀ s q, s < m → q < K * 4 → W s q < 4294967296
  cov : ∀ s a, s < m → a < K → W s (a * 4) ||| W s (a * 4 + 1) = 4294967295 ∧ W s (a * 4 + 2) ||| W s (a * 4 + 3) = 4294967295
  put_ : ∀ s a e, s < m → a < K → entJ W s a = some e → e ∈ put
  apart : Apart W m K
theorem JInv.jb {W : Wds} {m K cut : Nat} {put sure : List (Nat × Nat)} (h : JInv W m K put sure cut) : JB W m K put := ⟨h.m2, h.k1, h.lt, h.cov, h.put_, h.apart⟩
theorem JB.inv {W : Wds} {m K cut : Nat} {put sure : List (Nat × Nat)} (h : JB W m K put) (hr : ∃ R, Ring W m K (openJ W m K).2.1 (openJ W m K).2.2 R sure cut) : JInv W m K put sure cut := ⟨h.m2, h.k1, h.lt, h.cov, h.put_, h.apart, hr⟩
theorem JB.set {W W' : Wds} {m K s a : Nat} {put : List (Nat × Nat)} {x : Nat × Nat} (h : JB W m K put) (hs : SetIn W W' m K s a) (ho : SlotOk W' s a) (hA : Apart W' m K) (he : entJ W' s a = none ∨ entJ W' s a = some x) : JB W' m K (put ++ [x]) := by
  refine ⟨h.m2, h.k1, fun s' q h1 h2 => ?_, fun s' a' h1 h2 => ?_, fun s' a' e h1 h2 h3 => ?_, hA⟩
  · by_cases hc : s' = s ∧ a * 4 ≤ q ∧ q < a * 4 + 4
    · obtain ⟨rfl, g1, g2⟩ := hc
      have := ho.lt (q - a * 4) (by omega)
      rwa [show a * 4 + (q - a * 4) = q by omega] at this
    · rw [hs s' q h1 h2 hc]; exact h.lt s' q h1 h2
  · by_cases hc : s' = s ∧ a' = a
    · obtain ⟨rfl, rfl⟩ := hc
      exact ⟨ho.cov1, ho.cov2⟩
    · have g : ∀ i, i < 4 → W' s' (a' * 4 + i) = W s' (a' * 4 + i) := fun i hi => hs s' _ h1 (by omega) (fun ⟨k1, k2, k3⟩ => hc ⟨k1, by omega⟩)
      have g0 := g 0 (by decide)
      rw [Nat.add_zero] at g0
      rw [g0, g 1 (by decide), g 2 (by decide), g 3 (by decide)]
      exact h.cov s' a' h1 h2
  · by_cases hc : s' = s ∧ a' = a
    · obtain ⟨rfl, rfl⟩ := hc
      rcases he with he | he
      · rw [he] at h3; cases h3
      · rw [he] at h3; cases h3; simp
    · rw [hs.ent h1 h2 hc] at h3
      exact List.mem_append_left _ (h.put_ _ _ _ h1 h2 h3)
theorem idx_lt {N M q : Nat} (h : N ≤ M) (_hM : 0 < M) (hq : q + 1 ≤ M) : idxJ N M q < M := by unfold idxJ; split <;> omega
theorem ring_le {m K c u : Nat} (hc : c < m) (hu : u ≤ K) : c * K + u ≤ m * K := by
  have := Nat.mul_le_mul_right K (show c + 1 ≤ m from hc)
  rw [Nat.add_mul, Nat.one_mul] at this
  omega
theorem pred_mul {m K : Nat} (hm : 2 ≤ m) : (m - 1) * K + K = m * K := by
  rw [show m * K = (m - 1 + 1) * K by rw [show m - 1 + 1 = m by omega], Nat.add_mul, Nat.one_mul]
theorem mod_place {m K n : Nat} (hK : 1 ≤ K) (h : n < m * K) : n / K < m ∧ n % K < K := ⟨(Nat.div_lt_iff_lt_mul hK).2 h, Nat.mod_lt _ hK⟩
/-- One more place of the sector is filled. -/
theorem Ring.push {W W' : Wds} {m K c u cut : Nat} {R : List Att} {sure : List (Nat × Nat)} (h : Ring W m K c u R sure cut) (hm : 2 ≤ m) (hK : 1 ≤ K) (hu : u < K) (hs : SetIn W W' m K c u) (b : Bool) (x : Nat × Nat) (hx : b = true → entJ W' c u = some x) :
    Ring W' m K c (u + 1) ((b, x) :: R) (if b = true then sure ++ [x] else sure) (if b = true then cut else cut + 1) := by
  have hp := pred_mul (K := K) hm
  have hle := ring_le h.c_lt (Nat.le_of_lt hu)
  have hle2 := ring_le h.c_lt (show u + 1 ≤ K from hu)
  refine ⟨h.c_lt, hu, fun a h1 h2 => ?_, ?_, ?_, fun q e hq he => ?_⟩
  · rw [hs.blank h.c_lt h2 (fun hh => by omega)]; exact h.blank a (by omega) h2
  · cases b
    · simpa using h.oks
    · simpa using h.oks
  · cases b
    · simpa using h.bad
    · simpa using h.bad
  · cases q with
    | zero =>
      simp only [List.getElem?_cons_zero, Option.some.injEq] at he
      have hb : b = true := congrArg Prod.fst he
      have he2 : x = e := congrArg Prod.snd he
      subst he2
      unfold idxJ entN
      rw [if_pos (by omega), show c * K + (u + 1) - (0 + 1) = c * K + u by omega, (flat_div hK hu).1, (flat_div hK hu).2]
      exact hx hb
    | succ q =>
      rw [List.getElem?_cons_succ] at he
      have h1 := h.at_ q e (by omega) he
      have hi : idxJ (c * K + (u + 1)) (m * K) (q + 1) = idxJ (c * K + u) (m * K) q := by unfold idxJ; split <;> split <;> omega
      rw [hi]
      have hl := idx_lt hle (by omega) (show q + 1 ≤ m * K by omega)
      have hne : idxJ (c * K + u) (m * K) q ≠ c * K + u := by unfold idxJ; split <;> omega
      obtain ⟨g1, g2⟩ := mod_place hK hl
      unfold entN at h1 ⊢
      rw [hs.ent g1 g2 (fun hh => hne (flat_at hh.1 hh.2))]
      exact h1
/-- The sector is full: the next one comes behind it. -/
theorem Ring.turn {W : Wds} {m K c cut : Nat} {R : List Att} {sure : List (Nat × Nat)} (h : Ring W m K c K R sure cut) (hm : 2 ≤ m) (hb : ∀ a, a < K → blank4 W ((c + 1) % m) a = true) : Ring W m K ((c + 1) % m) 0 R sure cut := by
  have hp := pred_mul (K := K) hm
  refine ⟨Nat.mod_lt _ (by omega), Nat.zero_le _, fun a _ h2 => hb a h2, h.oks, h.bad, fun q e hq he => ?_⟩
  have h1 := h.at_ q e hq he
  have hc := h.c_lt
  have hi : idxJ ((c + 1) % m * K + 0) (m * K) q = idxJ (c * K + K) (m * K) q := by
    rcases Nat.lt_or_ge (c + 1) m with h2 | h2
    · rw [Nat.mod_eq_of_lt h2, Nat.add_mul, Nat.one_mul, Nat.add_zero]
    · have : c + 1 = m := by omega
      rw [this, Nat.mod_self, Nat.zero_mul, show c * K + K = m * K by rw [← this, Nat.add_mul, Nat.one_mul]]
      unfold idxJ
      split <;> split <;> omega
  rw [hi]
  exact h1
/-- All words but a sector's are as they were; of that one's bits are set. -/
structure RiseIn (W W' : Wds) (m K s : Nat) : Prop where
  same : ∀ s' q, s' < m → q < K * 4 → s' ≠ s → W' s' q = W s' q
  rise : ∀ q, q < K * 4 → W s q ||| W' s q = W' s q ∧ W' s q < 4294967296
theorem RiseIn.ent {W W' : Wds} {m K s : Nat} (h : RiseIn W W' m K s) {s' a' : Nat} (h1 : s' < m) (h2 : a' < K) (h3 : s' ≠ s) : entJ W' s' a' = entJ W s' a' := by
  unfold entJ
  rw [h.same s' _ h1 (by omega) h3, h.same s' _ h1 (by omega) h3, h.same s' _ h1 (by omega) h3, h.same s' _ h1 (by omega) h3]
theorem RiseIn.blank {W W' : Wds} {m K s : Nat} (h : RiseIn W W' m K s) {s' a' : Nat} (h1 : s' < m) (h2 : a' < K) (h3 : s' ≠ s) : blank4 W' s' a' = blank4 W s' a' := by
  unfold blank4
  rw [h.same s' _ h1 (by omega) h3, h.same s' _ h1 (by omega) h3, h.same s' _ h1 (by omega) h3, h.same s' _ h1 (by omega) h3]
theorem ent4_of {a b c e : Nat} {x : Nat × Nat} (h : ent4 a b c e = some x) : ent4 a b c e = ent4 x.2 (4294967295 - x.2) x.1 (4294967295 - x.1) := by
  obtain ⟨_, _, rfl, rfl, rfl⟩ := ent4_pos h
  rfl
theorem RiseIn.fewer {W W' : Wds} {m K s : Nat} {put : List (Nat × Nat)} (h : RiseIn W W' m K s) (hb : JB W m K put) {s' a' : Nat} {e : Nat × Nat} (h1 : s' < m) (h2 : a' < K) (he : entJ W' s' a' = some e) : entJ W s' a' = some e := by
  by_cases hs : s' = s
  · subst hs
    obtain ⟨c1, c2⟩ := hb.cov s' a' h1 h2
    obtain ⟨_, _, _, p4, p5⟩ := ent4_pos he
    have r : ∀ i, i < 4 → W s' (a' * 4 + i) ||| W' s' (a' * 4 + i) = W' s' (a' * 4 + i) ∧ W' s' (a' * 4 + i) < 4294967296 ∧ W s' (a' * 4 + i) < 4294967296 := fun i hi => ⟨(h.rise _ (by omega)).1, (h.rise _ (by omega)).2, hb.lt s' _ h1 (by omega)⟩
    have r0 := r 0 (by decide)
    rw [Nat.add_zero] at r0
    have r1 := r 1 (by decide)
    have r2 := r 2 (by decide)
    have r3 := r 3 (by decide)
    obtain ⟨t1, t2⟩ := twin_rise r0.2.2 r1.2.2 r0.2.1 r1.2.1 c1 r0.1 r1.1 p4
    obtain ⟨t3, t4⟩ := twin_rise r2.2.2 r3.2.2 r2.2.1 r3.2.1 c2 r2.1 r3.1 p5
    unfold entJ at he ⊢
    rw [← t1, ← t2, ← t3, ← t4]
    exact he
  · rw [← h.ent h1 h2 hs]; exact he
theorem JB.rise {W W' : Wds} {m K s : Nat} {put : List (Nat × Nat)} (h : JB W m K put) (hr : RiseIn W W' m K s) (hA : Apart W' m K) : JB W' m K put := by
  refine ⟨h.m2, h.k1, fun s' q h1 h2 => ?_, fun s' a' h1 h2 => ?_, fun s' a' e h1 h2 h3 => h.put_ s' a' e h1 h2 (hr.fewer h h1 h2 h3), hA⟩
  · by_cases hs : s' = s
    · rw [hs]; exact (hr.rise q h2).2
    · rw [hr.same s' q h1 h2 hs]; exact h.lt s' q h1 h2
  · by_cases hs : s' = s
    · subst hs
      obtain ⟨c1, c2⟩ := h.cov s' a' h1 h2
      exact ⟨cover_up (hr.rise _ (by omega)).2 (hr.rise _ (by omega)).2 c1 (hr.rise _ (by omega)).1 (hr.rise _ (by omega)).1, cover_up (hr.rise _ (by omega)).2 (hr.rise _ (by omega)).2 c2 (hr.rise _ (by omega)).1 (hr.rise _ (by omega)).1⟩
    · rw [hr.same s' _ h1 (by omega) hs, hr.same s' _ h1 (by omega) hs, hr.same s' _ h1 (by omega) hs, hr.same s' _ h1 (by omega) hs]
      exact h.cov s' a' h1 h2
theorem next_ne {m c : Nat} (hm : 2 ≤ m) (hc : c < m) : (c + 1) % m ≠ c := by
  rcases Nat.lt_or_ge (c + 1) m with h | h
  · rw [Nat.mod_eq_of_lt h]; omega
  · rw [show c + 1 = m by omega, Nat.mod_self]; omega
/-- The ring of a full sector rests on no word of the next one. -/
theorem Ring.rest {W W' : Wds} {m K c cut : Nat} {R : List Att} {sure : List (Nat × Nat)} (h : Ring W m K c K R sure cut) (hm : 2 ≤ m) (hK : 1 ≤ K) (hs : ∀ s a, s < m → a < K → s ≠ (c + 1) % m → entJ W' s a = entJ W s a) : Ring W' m K c K R sure cut := by
  have hp := pred_mul (K := K) hm
  have hc := h.c_lt
  have hle := ring_le hc (Nat.le_refl K)
  refine ⟨hc, Nat.le_refl _, fun a h1 h2 => absurd h1 (by omega), h.oks, h.bad, fun q e hq he => ?_⟩
  have h1 := h.at_ q e hq he
  have hl := idx_lt hle (by omega) (show q + 1 ≤ m * K by omega)
  obtain ⟨g1, g2⟩ := mod_place hK hl
  unfold entN at h1 ⊢
  rw [hs _ _ g1 g2 (fun hh => ?_)]
  · exact h1
  · have h5 := flat_at hh rfl
    have h6 := g2
    generalize idxJ (c * K + K) (m * K) q % K = r at *
    unfold idxJ at h5
    rcases Nat.lt_or_ge (c + 1) m with h2 | h2
    · rw [Nat.mod_eq_of_lt h2, Nat.add_mul, Nat.one_mul] at h5
      split at h5 <;> omega
    · have h7 : c + 1 = m := by omega
      have h8 : c * K + K = m * K := by rw [← h7, Nat.add_mul, Nat.one_mul]
      rw [h7, Nat.mod_self, Nat.zero_mul] at h5
      split at h5 <;> omega

theorem open_parts {W : Wds} {m K n c u : Nat} (h : openJ W m K = (n, c, u)) : (foldJ W K m).1 = n ∧ (foldJ W K m).2.1 = c ∧ skipJ W c K K (foldJ W K m).2.2 = u := by
  unfold openJ at h
  injection h with h1 h2
  injection h2 with h2 h3
  subst h2
  exact ⟨h1, rfl, h3⟩
section
variable {W W' : Wds} {m K n c u w cut : Nat} {put sure : List (Nat × Nat)}
theorem JInv.open_ring (h : JInv W m K put sure cut) (ho : openJ W m K = (n, c, u)) : ∃ R, Ring W m K c u R sure cut := by
  obtain ⟨R, hr⟩ := h.ring
  rw [ho] at hr
  exact ⟨R, hr⟩
/-- A place is filled wholly. -/
theorem fill_ok (h : JB W m K put) (hn : (foldJ W K m).1 = n) {R : List Att} (hr : Ring W m K c u R sure cut) (hu : u < K) (hs : SetIn W W' m K c u) (ho : SlotOk W' c u) (b : Bool) (he : entJ W' c u = some (n, w)) :
    JInv W' m K (put ++ [(n, w)]) (if b = true then sure ++ [(n, w)] else sure) (if b = true then cut else cut + 1) ∧ openJ W' m K = (n + 1, c, u + 1) := by
  obtain ⟨hf, hA⟩ := fold_new h.apart hr.c_lt hu (x := (n, w)) hn.symm he (fun s a e g1 g2 g3 g4 => by rw [← hs.ent g1 g2 g3]; exact g4)
  have hr' := hr.push h.m2 h.k1 hu hs b (n, w) (fun _ => he)
  have hop : openJ W' m K = (n + 1, c, u + 1) := by
    unfold openJ
    rw [hf]
    dsimp only
    rw [skipJ_to hr'.u_le (fun hk => hr'.blank _ (Nat.le_refl _) hk) K (u + 1) (Nat.le_refl _) (by omega) (fun b g1 g2 => by omega)]
  refine ⟨(h.set hs ho hA (.inr he)).inv ⟨(b, (n, w)) :: R, ?_⟩, hop⟩
  rw [hop]
  exact hr'
theorem JInv.place_ok (h : JInv W m K put sure cut) (hop : openJ W m K = (n, c, u)) (hu : u < K) (hs : SetIn W W' m K c u) (ho : SlotOk W' c u) (he : entJ W' c u = some (n, w)) :
    JInv W' m K (put ++ [(n, w)]) (sure ++ [(n, w)]) cut ∧ openJ W' m K = (n + 1, c, u + 1) := by
  obtain ⟨R, hr⟩ := h.open_ring hop
  exact fill_ok h.jb (open_parts hop).1 hr hu hs ho true he
theorem JInv.place_torn (h : JInv W m K put sure cut) (hop : openJ W m K = (n, c, u)) (hu : u < K) (hs : SetIn W W' m K c u) (ho : SlotOk W' c u) (he : entJ W' c u = none ∨ entJ W' c u = some (n, w)) :
    JInv W' m K (put ++ [(n, w)]) sure (cut + 1) := by
  obtain ⟨R, hr⟩ := h.open_ring hop
  obtain ⟨p1, p2, p3⟩ := open_parts hop
  rcases he with he | he
  · have hbu := hr.blank u (Nat.le_refl _) hu
    have hsame : ∀ s a, s < m → a < K → entJ W' s a = entJ W s a := fun s a g1 g2 => by
      by_cases hc : s = c ∧ a = u
      · rw [hc.1, hc.2, he, ent_blank hbu]
      · exact hs.ent g1 g2 hc
    obtain ⟨hf, hA⟩ := fold_same h.apart (fun s a e g1 g2 g3 => by rw [← hsame s a g1 g2]; exact g3) (fun a g => hsame _ a (found_at (W := W) h.m2).1 g)
    have hspec := skipJ_spec (W := W) (s := c) (K := K) K (foldJ W K m).2.2 (found_at (W := W) h.m2).2 (Nat.le_add_left _ _)
    rw [p3] at hspec
    have hj := h.jb.set (x := (n, w)) hs ho hA (.inl he)
    cases hb : blank4 W' c u with
    | true =>
      have hbl : ∀ a, a < K → blank4 W' c a = blank4 W c a := fun a g => by
        by_cases hc : a = u
        · rw [hc, hb, hbu]
        · exact hs.blank hr.c_lt g (fun hh => hc hh.2)
      have hop' : openJ W' m K = (n, c, u) := by
        unfold openJ
        rw [hf]
        dsimp only
        rw [p1, p2, skipJ_to (Nat.le_of_lt hu) (fun _ => hb) K _ hspec.1 (by omega) (fun b g1 g2 => by rw [hbl b (by omega)]; exact hspec.2.2.2 b g1 g2)]
      refine hj.inv ⟨R, ?_⟩
      rw [hop']
      refine ⟨hr.c_lt, hr.u_le, fun a g1 g2 => by rw [hbl a g2]; exact hr.blank a g1 g2, hr.oks, Nat.le_succ_of_le hr.bad, fun q e hq hqe => ?_⟩
      have h1 := hr.at_ q e hq hqe
      have hp := pred_mul (K := K) h.m2
      obtain ⟨g1, g2⟩ := mod_place h.k1 (idx_lt (ring_le hr.c_lt hr.u_le) (by omega) (show q + 1 ≤ m * K by omega))
      unfold entN at h1 ⊢
      rw [hsame _ _ g1 g2]
      exact h1
    | false =>
      have hr' := hr.push h.m2 h.k1 hu hs false (n, w) (fun hh => by cases hh)
      have hop' : openJ W' m K = (n, c, u + 1) := by
        unfold openJ
        rw [hf]
        dsimp only
        rw [p1, p2, skipJ_to hr'.u_le (fun hk => hr'.blank _ (Nat.le_refl _) hk) K _ (by omega) (by omega) (fun b g1 g2 => ?_)]
        by_cases hc : b = u
        · rw [hc]; exact hb
        · rw [hs.blank hr.c_lt (by omega) (fun hh => hc hh.2)]; exact hspec.2.2.2 b g1 (by omega)
      refine hj.inv ⟨(false, (n, w)) :: R, ?_⟩
      rw [hop']
      exact hr'
  · exact (fill_ok h.jb p1 hr hu hs ho false he).1
/-- A full journal's next sector is erased, wholly or not. -/
theorem JInv.turn (h : JInv W m K put sure cut) (hop : openJ W m K = (n, c, K)) (hr : RiseIn W W' m K ((c + 1) % m)) : JInv W' m K put sure cut ∧ openJ W' m K = (n, c, K) := by
  obtain ⟨R, hR⟩ := h.open_ring hop
  obtain ⟨p1, p2, p3⟩ := open_parts hop
  have hne := next_ne h.m2 hR.c_lt
  obtain ⟨hf, hA⟩ := fold_same h.apart (fun s a e g1 g2 g3 => hr.fewer h.jb g1 g2 g3) (fun a g => by rw [p2]; exact hr.ent hR.c_lt g (Ne.symm hne))
  have hspec := skipJ_spec (W := W) (s := c) (K := K) K (foldJ W K m).2.2 (found_at (W := W) h.m2).2 (Nat.le_add_left _ _)
  rw [p3] at hspec
  have hop' : openJ W' m K = (n, c, K) := by
    unfold openJ
    rw [hf]
    dsimp only
    rw [p1, p2, skipJ_to (Nat.le_refl _) (fun hk => absurd hk (Nat.lt_irrefl _)) K _ hspec.1 (by omega) (fun b g1 g2 => by rw [hr.blank hR.c_lt g2 (Ne.symm hne)]; exact hspec.2.2.2 b g1 g2)]
  refine ⟨(h.jb.rise hr hA).inv ⟨R, ?_⟩, hop'⟩
  rw [hop']
  exact hR.rest h.m2 h.k1 (fun s a g1 g2 g3 => hr.ent g1 g2 g3)
/-- Its first place is filled. -/
theorem JInv.next_ok (h : JInv W m K put sure cut) (hop : openJ W m K = (n, c, K)) (hb : ∀ a, a < K → blank4 W ((c + 1) % m) a = true) (hs : SetIn W W' m K ((c + 1) % m) 0) (ho : SlotOk W' ((c + 1) % m) 0) (he : entJ W' ((c + 1) % m) 0 = some (n, w)) :
    JInv W' m K (put ++ [(n, w)]) (sure ++ [(n, w)]) cut ∧ openJ W' m K = (n + 1, (c + 1) % m, 1) := by
  obtain ⟨R, hr⟩ := h.open_ring hop
  exact fill_ok h.jb (open_parts hop).1 (hr.turn h.m2 hb) h.k1 hs ho true he
theorem JInv.next_torn (h : JInv W m K put sure cut) (hop : openJ W m K = (n, c, K)) (hb : ∀ a, a < K → blank4 W ((c + 1) % m) a = true) (hs : SetIn W W' m K ((c + 1) % m) 0) (ho : SlotOk W' ((c + 1) % m) 0) (he : entJ W' ((c + 1) % m) 0 = none ∨ entJ W' ((c + 1) % m) 0 = some (n, w)) :
    JInv W' m K (put ++ [(n, w)]) sure (cut + 1) := by
  obtain ⟨R, hr⟩ := h.open_ring hop
  obtain ⟨p1, p2, p3⟩ := open_parts hop
  rcases he with he | he
  · have hne := next_ne h.m2 hr.c_lt
    have hsame : ∀ s a, s < m → a < K → entJ W' s a = entJ W s a := fun s a g1 g2 => by
      by_cases hc : s = (c + 1) % m ∧ a = 0
      · rw [hc.1, hc.2, he, ent_blank (hb 0 h.k1)]
      · exact hs.ent g1 g2 hc
    obtain ⟨hf, hA⟩ := fold_same h.apart (fun s a e g1 g2 g3 => by rw [← hsame s a g1 g2]; exact g3) (fun a g => hsame _ a (found_at (W := W) h.m2).1 g)
    have hspec := skipJ_spec (W := W) (s := c) (K := K) K (foldJ W K m).2.2 (found_at (W := W) h.m2).2 (Nat.le_add_left _ _)
    rw [p3] at hspec
    have hop' : openJ W' m K = (n, c, K) := by
      unfold openJ
      rw [hf]
      dsimp only
      rw [p1, p2, skipJ_to (Nat.le_refl _) (fun hk => absurd hk (Nat.lt_irrefl _)) K _ hspec.1 (by omega) (fun b g1 g2 => by rw [hs.blank hr.c_lt g2 (fun hh => hne hh.1.symm)]; exact hspec.2.2.2 b g1 g2)]
    refine (h.jb.set (x := (n, w)) hs ho hA (.inl he)).inv ⟨R, ?_⟩
    rw [hop']
    exact ring_cut (hr.rest h.m2 h.k1 (fun s a g1 g2 g3 => hs.ent g1 g2 (fun hh => g3 hh.1))) (Nat.le_succ _)
  · exact (fill_ok h.jb p1 (hr.turn h.m2 hb) h.k1 hs ho false he).1
end
/-- Of those that were surely added the last ones are there. -/
theorem filter_len {α : Type} (p : α → Bool) : ∀ l : List α, (l.filter p).length + (l.filter (fun x => !p x)).length = l.length
  | [] => rfl
  | a :: l => by
    have := filter_len p l
    rw [List.filter_cons, List.filter_cons]
    cases p a <;> simp <;> omega
/-- The i-th of those that meet p stands at a place of the row that is no further on than i and those that don't. -/
theorem filter_place {α : Type} (p : α → Bool) : ∀ (l : List α) (i : Nat) (a : α), (l.filter p)[i]? = some a → ∃ k, l[k]? = some a ∧ k ≤ i + (l.filter (fun x => !p x)).length
  | [], i, a, h => by simp at h
  | b :: l, i, a, h => by
    rw [List.filter_cons] at h
    cases hp : p b with
    | true =>
      rw [hp, if_pos rfl] at h
      cases i with
      | zero =>
        simp only [List.getElem?_cons_zero, Option.some.injEq] at h
        exact ⟨0, by simpa using h, Nat.zero_le _⟩
      | succ i =>
        rw [List.getElem?_cons_succ] at h
        obtain ⟨k, h1, h2⟩ := filter_place p l i a h
        refine ⟨k + 1, by simpa using h1, ?_⟩
        rw [List.filter_cons]
        simp only [hp, Bool.not_true, Bool.false_eq_true, if_false]
        omega
    | false =>
      rw [hp, if_neg (by simp)] at h
      obtain ⟨k, h1, h2⟩ := filter_place p l i a h
      refine ⟨k + 1, by simpa using h1, ?_⟩
      rw [List.filter_cons]
      simp only [hp, Bool.not_false, if_true, List.length_cons]
      omega
theorem JInv.last {W : Wds} {m K cut : Nat} {put sure : List (Nat × Nat)} (h : JInv W m K put sure cut) {i : Nat} (hi : i < sure.length) (hl : sure.length - i + cut ≤ (m - 1) * K) : ∃ s a, s < m ∧ a < K ∧ entJ W s a = some sure[i] := by
  obtain ⟨R, hr⟩ := h.ring
  have hp := pred_mul (K := K) h.m2
  have h1 : ((R.filter (·.1)).map (·.2))[sure.length - 1 - i]? = some sure[i] := by
    have e := hr.oks
    have e2 : sure.reverse = (R.filter (·.1)).map (·.2) := by rw [e, List.reverse_reverse]
    rw [← e2, List.getElem?_reverse (by omega), show sure.length - 1 - (sure.length - 1 - i) = i by omega, List.getElem?_eq_getElem hi]
  rw [List.getElem?_map, Option.map_eq_some_iff] at h1
  obtain ⟨a, h2, h3⟩ := h1
  obtain ⟨k, h4, h5⟩ := filter_place (fun x : Att => x.1) R _ a h2
  have ha : a.1 = true := by
    have := List.mem_of_getElem? h2
    exact (List.mem_filter.1 this).2
  have hb := hr.bad
  have hpos : 0 < m * K := Nat.mul_pos (by have := h.m2; omega) h.k1
  have h6 := hr.at_ k sure[i] (by omega) (by rw [h4, ← h3, ← ha])
  obtain ⟨g1, g2⟩ := mod_place h.k1 (idx_lt (ring_le hr.c_lt hr.u_le) hpos (show k + 1 ≤ m * K by have := h.k1; omega))
  exact ⟨_, _, g1, g2, h6⟩
end Go.Proofs.Yteanpgkonhdbpaa
