/- Reading words back, as plain data: what a task holds, bit by bit; no program in sight. -/
import Derived.Test.YtfgjcjpemlgnmaaDoorCwRight
namespace Go.Proofs.YtfgjcjpemlgnmaaDoor

/-- Each place of ks gets the next of vs. -/
def fillL : List Nat → List Int → List Int → List Int
  | k :: ks, v :: vs, l => fillL ks vs (l.set k v)
  | _, _, l => l
theorem fillL_len : ∀ (ks : List Nat) (vs l : List Int), (fillL ks vs l).length = l.length
  | [], _, _ => rfl
  | _ :: _, [], _ => rfl
  | k :: ks, v :: vs, l => by rw [fillL, fillL_len ks vs, List.length_set]
theorem fillL_snoc : ∀ (ks : List Nat) (vs l : List Int) (k : Nat) (v : Int), ks.length = vs.length → fillL (ks ++ [k]) (vs ++ [v]) l = (fillL ks vs l).set k v
  | [], [], l, k, v, _ => rfl
  | [], _ :: _, _, _, _, h => by simp at h
  | _ :: _, [], _, _, _, h => by simp at h
  | a :: ks, b :: vs, l, k, v, h => by
    rw [List.cons_append, List.cons_append, fillL, fillL, fillL_snoc ks vs _ k v (by simpa using h)]
/-- The set bits below n. -/
def bitsN (s n : Nat) : List Nat := (List.range n).filter (fun i => s.testBit i)
theorem bitsN_succ (s n : Nat) : bitsN s (n + 1) = bitsN s n ++ if s.testBit n = true then [n] else [] := by
  unfold bitsN
  rw [List.range_succ, List.filter_append]
  by_cases h : s.testBit n = true
  · rw [if_pos h]; simp [h]
  · rw [if_neg h]; simp [h]
theorem bitsN_lt {s n k : Nat} (h : k ∈ bitsN s n) : k < n := by
  unfold bitsN at h
  have := (List.mem_filter.1 h).1
  simpa using this
theorem bitsN_all (s n m : Nat) (h : ∀ i, n ≤ i → s.testBit i = false) (hm : n ≤ m) : bitsN s m = bitsN s n := by
  obtain ⟨d, rfl⟩ : ∃ d, m = n + d := ⟨m - n, by omega⟩
  clear hm
  induction d with
  | zero => rfl
  | succ d ih =>
    rw [← Nat.add_assoc, bitsN_succ, ih, if_neg (by rw [h _ (by omega)]; simp), List.append_nil]
theorem bitsL_N {s n : Nat} (hs : s < 2 ^ n) (hn : n ≤ 32) : bitsL s = bitsN s n := by
  show bitsN s 32 = _
  refine bitsN_all s n 32 (fun i hi => ?_) hn
  exact Nat.testBit_lt_two_pow (Nat.lt_of_lt_of_le hs (Nat.pow_le_pow_right (by decide) hi))
theorem usesK_set (l : List Int) (v : Int) (m : Nat) : ∀ n, n ≤ m → usesK (l.set m v) n = usesK l n
  | 0, _ => rfl
  | n + 1, h => by
    rw [usesK, usesK, usesK_set l v m n (by omega)]
    have : (l.set m v).getD n 0 = l.getD n 0 := by
      rw [List.getD_eq_getElem?_getD, List.getD_eq_getElem?_getD, List.getElem?_set_ne (by omega)]
    rw [this]
theorem usesB_set (l : List Int) (v : Int) (m : Nat) : ∀ n, n ≤ m → usesB (l.set m v) n = usesB l n
  | 0, _ => rfl
  | n + 1, h => by
    rw [usesB, usesB, usesB_set l v m n (by omega)]
    have : (l.set m v).getD n 0 = l.getD n 0 := by
      rw [List.getD_eq_getElem?_getD, List.getD_eq_getElem?_getD, List.getElem?_set_ne (by omega)]
    rw [this]
theorem mod_succ (s n : Nat) : s % 2 ^ (n + 1) = s % 2 ^ n + if s.testBit n = true then 2 ^ n else 0 := by
  rw [Nat.mod_pow_succ]
  have h0 : s / 2 ^ n % 2 = 0 ∨ s / 2 ^ n % 2 = 1 := by omega
  rw [Nat.testBit_eq_decide_div_mod_eq]
  rcases h0 with h | h
  · rw [h, if_neg (by simp), Nat.mul_zero]
  · rw [h, if_pos (by simp), Nat.mul_one]
/-- What has been filled in is what a task uses. -/
theorem fill_uses (s m : Nat) (vs : List Int) (hv : ∀ v ∈ vs, 0 < v) (hl : vs.length = (bitsN s m).length) : ∀ n, n ≤ m →
    let k := (bitsN s n).length
    k ≤ vs.length ∧ (usesK (fillL (bitsN s n) (vs.take k) (List.replicate m 0)) n).map Prod.snd = vs.take k ∧ usesB (fillL (bitsN s n) (vs.take k) (List.replicate m 0)) n = s % 2 ^ n ∧
      ∀ j, n ≤ j → (fillL (bitsN s n) (vs.take k) (List.replicate m 0)).getD j 0 = 0 := by
  have mono : ∀ n, n ≤ m → (bitsN s n).length ≤ (bitsN s m).length := by
    intro n hn
    obtain ⟨d, rfl⟩ : ∃ d, m = n + d := ⟨m - n, by omega⟩
    clear hl hn
    induction d with
    | zero => exact Nat.le_refl _
    | succ d ih => rw [← Nat.add_assoc, bitsN_succ, List.length_append]; omega
  intro n
  induction n with
  | zero =>
    intro _
    refine ⟨Nat.zero_le _, rfl, ?_, fun j _ => ?_⟩
    · simp [usesB, Nat.mod_one]
    · show (List.replicate m (0 : Int)).getD j 0 = 0
      rw [List.getD_eq_getElem?_getD, List.getElem?_replicate]
      split <;> rfl
  | succ n ih =>
    intro hn
    obtain ⟨h1, h2, h3, h4⟩ := ih (by omega)
    by_cases hb : s.testBit n = true
    · have hk : (bitsN s (n + 1)).length = (bitsN s n).length + 1 := by rw [bitsN_succ, if_pos hb, List.length_append]; rfl
      have hle := mono (n + 1) hn
      have hlt : (bitsN s n).length < vs.length := by omega
      have hz := hv _ (List.getElem_mem hlt)
      have ht : vs.take ((bitsN s n).length + 1) = vs.take (bitsN s n).length ++ [vs[(bitsN s n).length]] := List.take_succ_eq_append_getElem hlt
      simp only [hk]
      rw [bitsN_succ, if_pos hb, ht, fillL_snoc _ _ _ _ _ (by simp; omega)]
      generalize vs[(bitsN s n).length] = v at *
      have hm : (fillL (bitsN s n) (vs.take (bitsN s n).length) (List.replicate m 0)).length = m := by rw [fillL_len]; simp
      generalize fillL (bitsN s n) (vs.take (bitsN s n).length) (List.replicate m 0) = L at *
      have hg : (L.set n v).getD n 0 = v := by
        rw [List.getD_eq_getElem?_getD, List.getElem?_set_self (by omega)]; rfl
      refine ⟨by omega, ?_, ?_, fun j hj => ?_⟩
      · rw [usesK, usesK_set L v n n (Nat.le_refl _), hg, if_pos hz, List.map_append, h2]; rfl
      · rw [usesB, usesB_set L v n n (Nat.le_refl _), hg, if_pos hz, h3, mod_succ, if_pos hb]
      · rw [List.getD_eq_getElem?_getD, List.getElem?_set_ne (by omega), ← List.getD_eq_getElem?_getD]
        exact h4 j (by omega)
    · have hk : (bitsN s (n + 1)).length = (bitsN s n).length := by rw [bitsN_succ, if_neg hb, List.append_nil]
      simp only [hk]
      rw [bitsN_succ, if_neg hb, List.append_nil]
      have hz := h4 n (Nat.le_refl _)
      refine ⟨h1, ?_, ?_, fun j hj => h4 j (by omega)⟩
      · rw [usesK, hz, if_neg (by omega), List.append_nil, h2]
      · rw [usesB, hz, if_neg (by omega), h3, mod_succ, if_neg hb]
theorem fill_all (s : Nat) (vs : List Int) (hs : s < 256) (hv : ∀ v ∈ vs, 0 < v) (hl : vs.length = (bitsL s).length) :
    (usesK (fillL (bitsL s) vs (List.replicate 8 0)) 8).map Prod.snd = vs ∧ usesB (fillL (bitsL s) vs (List.replicate 8 0)) 8 = s := by
  have e := bitsL_N (s := s) (n := 8) (by omega) (by decide)
  rw [e] at hl ⊢
  obtain ⟨_, h2, h3, _⟩ := fill_uses s 8 vs hv hl 8 (Nat.le_refl _)
  rw [← hl, List.take_length] at h2 h3
  exact ⟨h2, by rw [h3]; exact Nat.mod_eq_of_lt (by omega)⟩
/-- A task's row, filled in from what it uses. -/
theorem uses_fill (l : List Int) (hl : l.length = 8) (h0 : ∀ v ∈ l, 0 ≤ v) : ∀ n, n ≤ 8 →
    bitsN (usesB l n) n = (usesK l n).map (fun p => p.1.toNat) ∧ fillL ((usesK l n).map (fun p => p.1.toNat)) ((usesK l n).map Prod.snd) (List.replicate 8 0) = l.take n ++ List.replicate (8 - n) 0 := by
  have bitsEq : ∀ (s t n : Nat), s % 2 ^ n = t % 2 ^ n → bitsN s n = bitsN t n := by
    intro s t n h
    unfold bitsN
    refine List.filter_congr (fun i hi => ?_)
    have hi' : i < n := by simpa using hi
    have a := Nat.testBit_mod_two_pow s n i
    have b := Nat.testBit_mod_two_pow t n i
    rw [h, b] at a
    simpa [hi'] using a.symm
  intro n
  induction n with
  | zero => intro _; exact ⟨rfl, by simp [usesK, fillL]⟩
  | succ n ih =>
    intro hn
    obtain ⟨h1, h2⟩ := ih (by omega)
    have hlt : n < l.length := by omega
    have hg : l.getD n 0 = l[n] := by rw [List.getD_eq_getElem?_getD, List.getElem?_eq_getElem hlt]; rfl
    have hp := h0 _ (List.getElem_mem hlt)
    have hB := usesB_lt l n
    have ht : l.take (n + 1) = l.take n ++ [l[n]] := List.take_succ_eq_append_getElem hlt
    have hr : List.replicate (8 - n) (0 : Int) = 0 :: List.replicate (8 - (n + 1)) 0 := by
      rw [show 8 - n = (8 - (n + 1)) + 1 by omega, List.replicate_succ]
    rw [usesK, usesB, hg]
    by_cases hz : 0 < l[n]
    · rw [if_pos hz, if_pos hz, List.map_append, List.map_append]
      constructor
      · rw [bitsN_succ, bitsEq (usesB l n + 2 ^ n) (usesB l n) n (by simp), h1]
        have : (usesB l n + 2 ^ n).testBit n = true := by
          rw [Nat.add_comm, Nat.testBit_two_pow_add_eq, Nat.testBit_lt_two_pow hB]; rfl
        rw [if_pos this]
        simp
      · have hlen : ((usesK l n).map (fun p => p.1.toNat)).length = ((usesK l n).map Prod.snd).length := by simp
        simp only [List.map_cons, List.map_nil, Int.toNat_natCast]
        rw [fillL_snoc _ _ _ _ _ hlen, h2, ht, hr, List.set_append_right _ _ (by simp; omega)]
        have e : n - (l.take n).length = 0 := by simp; omega
        rw [e, List.set_cons_zero, List.append_assoc]
        rfl
    · rw [if_neg hz, if_neg hz, List.append_nil, Nat.add_zero]
      have h00 : l[n] = 0 := by omega
      constructor
      · rw [bitsN_succ, h1, if_neg (by rw [Nat.testBit_lt_two_pow hB]; simp), List.append_nil]
      · rw [h2, ht, hr, h00]
        simp
theorem uses_all (l : List Int) (hl : l.length = 8) (h0 : ∀ v ∈ l, 0 ≤ v) : fillL (bitsL (usesB l 8)) ((usesK l 8).map Prod.snd) (List.replicate 8 0) = l := by
  obtain ⟨h1, h2⟩ := uses_fill l hl h0 8 (Nat.le_refl _)
  rw [bitsL_N (n := 8) (by have := usesB_lt l 8; omega) (by decide), h1, h2]
  rw [List.take_of_length_le (by omega)]
  simp
end Go.Proofs.YtfgjcjpemlgnmaaDoor
