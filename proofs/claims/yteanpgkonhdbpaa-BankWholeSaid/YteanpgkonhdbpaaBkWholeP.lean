/- What the bank's image may be, whatever is called, in plain lists. Condition: the bank is of all sectors. -/
import Derived.Test.YteanpgkonhdbpaaBkPlays
namespace Go.Proofs.Yteanpgkonhdbpaa
open Go.RowKit

abbrev atB (d : Dev) (j : Nat) : Nat := d.bits.getD j 0
theorem goes_bits (d : Dev) : (goesS d).1.bits = d.bits ∧ (goesS d).1.nw = d.nw ∧ (goesS d).1.ns = d.ns := by
  unfold goesS
  split
  · split <;> exact ⟨rfl, rfl, rfl⟩
  · exact ⟨rfl, rfl, rfl⟩
theorem prog_other (d : Dev) (σ k v j : Nat) (hj : j ≠ σ * d.nw + k) : atB (progS d (σ : Int) (k : Int) v).1 j = atB d j := by
  unfold progS
  split
  · rfl
  · split
    · rfl
    · dsimp only
      split
      · rfl
      · rw [atS_nat]
        split
        · exact getD_set_ne' _ _ _ _ (Ne.symm hj)
        · exact getD_set_ne' _ _ _ _ (Ne.symm hj)
theorem prog_this {d : Dev} (ho : d.Ok) (σ k v : Nat) (h : (progS d (σ : Int) (k : Int) v).2 = 0) : atB (progS d (σ : Int) (k : Int) v).1 (σ * d.nw + k) = v := by
  unfold progS at h ⊢
  by_cases hon : d.on = false
  · rw [if_pos hon] at h; cases h
  · rw [if_neg hon] at h ⊢
    by_cases hi : isS d (σ : Int) (k : Int) = false
    · rw [if_pos hi] at h; cases h
    · rw [if_neg hi] at h ⊢
      dsimp only at h ⊢
      by_cases hv : v ||| d.bits.getD (atS d (σ : Int) (k : Int)) 0 ≠ d.bits.getD (atS d (σ : Int) (k : Int)) 0
      · rw [if_pos hv] at h; cases h
      · rw [if_neg hv] at h ⊢
        by_cases hg : (goesS d).2 = true
        · rw [if_pos hg] at h; cases h
        · rw [if_neg hg]
          rw [atS_nat]
          have hi' : isS d (σ : Int) (k : Int) = true := by cases hx : isS d (σ : Int) (k : Int) <;> simp_all
          unfold isS at hi'
          have := of_decide_eq_true hi'
          exact getD_set_self' _ _ _ (in_bits ho (by omega) (by omega))
theorem prog_clears {d : Dev} (ho : d.Ok) (σ k v : Nat) : atB (progS d (σ : Int) (k : Int) v).1 (σ * d.nw + k) ||| atB d (σ * d.nw + k) = atB d (σ * d.nw + k) := by
  unfold progS
  split
  · exact Nat.or_self _
  · split
    · exact Nat.or_self _
    · rename_i hi
      dsimp only
      split
      · exact Nat.or_self _
      · rename_i hv
        have hi' : isS d (σ : Int) (k : Int) = true := by cases hx : isS d (σ : Int) (k : Int) <;> simp_all
        unfold isS at hi'
        have := of_decide_eq_true hi'
        have hin := in_bits ho (s := σ) (q := k) (by omega) (by omega)
        rw [atS_nat] at hv ⊢
        split
        · show (d.bits.set (σ * d.nw + k) _).getD _ 0 ||| _ = _
          rw [getD_set_self' _ _ _ hin]
          apply Nat.eq_of_testBit_eq
          intro i
          rw [Nat.testBit_or, Nat.testBit_and]
          cases Nat.testBit (d.bits.getD (σ * d.nw + k) 0) i <;> simp
        · show (d.bits.set (σ * d.nw + k) _).getD _ 0 ||| _ = _
          rw [getD_set_self' _ _ _ hin]
          exact Classical.byContradiction hv
theorem flatB_at {nw : Nat} (h : 1 ≤ nw) (σ at_ : Nat) : (σ + at_ / nw) * nw + at_ % nw = σ * nw + at_ := by
  rw [Nat.add_mul]
  have := Nat.div_add_mod at_ nw
  rw [Nat.mul_comm] at this
  omega
/-- What words one behind the other do: the first m of them are there, the next may be anything, the others are as they were. -/
theorem progsD_words : ∀ (l : List Nat) {d : Dev} (σ fr : Nat), d.Ok → (∀ x ∈ l, x < 4294967296) → (∀ j, j < σ * d.nw + fr ∨ σ * d.nw + fr + l.length ≤ j → atB (progsD d σ fr l).1 j = atB d j) ∧
    ∃ m, m ≤ l.length ∧ (∀ j, j < m → atB (progsD d σ fr l).1 (σ * d.nw + fr + j) = l.getD j 0) ∧ (∀ j, m < j → atB (progsD d σ fr l).1 (σ * d.nw + fr + j) = atB d (σ * d.nw + fr + j)) ∧ ((progsD d σ fr l).2 = 0 → m = l.length)
  | [], d, σ, fr, _, _ => ⟨fun _ _ => rfl, 0, Nat.le_refl _, fun j hj => absurd hj (by omega), fun _ _ => rfl, fun _ => rfl⟩
  | x :: l, d, σ, fr, ho, hl => by
    have hf := flatB_at ho.nw1 σ fr
    have h1 := progS_ok ho ((σ + fr / d.nw : Nat) : Int) ((fr % d.nw : Nat) : Int) x (hl x (by simp))
    have h2 := prog_dims d ((σ + fr / d.nw : Nat) : Int) ((fr % d.nw : Nat) : Int) x
    have ho1 : ∀ j, j ≠ σ * d.nw + fr → atB (progS d ((σ + fr / d.nw : Nat) : Int) ((fr % d.nw : Nat) : Int) x).1 j = atB d j := fun j hj => prog_other d _ _ x j (by rw [hf]; exact hj)
    have ht1 : (progS d ((σ + fr / d.nw : Nat) : Int) ((fr % d.nw : Nat) : Int) x).2 = 0 → atB (progS d ((σ + fr / d.nw : Nat) : Int) ((fr % d.nw : Nat) : Int) x).1 (σ * d.nw + fr) = x := fun e => by
      have := prog_this ho (σ + fr / d.nw) (fr % d.nw) x e
      rw [hf] at this
      exact this
    rw [progsD]
    generalize progS d ((σ + fr / d.nw : Nat) : Int) ((fr % d.nw : Nat) : Int) x = r at *
    obtain ⟨d1, e1⟩ := r
    dsimp only at *
    by_cases he : e1 = 0
    · rw [if_pos he]
      obtain ⟨g1, m, g2, g3, g4, g5⟩ := progsD_words l σ (fr + 1) h1 (fun y hy => hl y (by simp [hy]))
      rw [h2.nw] at g1 g3 g4
      refine ⟨fun j hj => ?_, m + 1, by simp; omega, fun j hj => ?_, fun j hj => ?_, fun e => by rw [g5 e]; simp⟩
      · rw [List.length_cons] at hj
        rw [g1 j (by omega), ho1 j (by omega)]
      · cases j with
        | zero =>
          show atB (progsD d1 σ (fr + 1) l).1 (σ * d.nw + fr) = x
          rw [g1 (σ * d.nw + fr) (by omega)]
          exact ht1 he
        | succ j =>
          have := g3 j (by omega)
          rw [show σ * d.nw + fr + (j + 1) = σ * d.nw + (fr + 1) + j by omega, this]
          rfl
      · cases j with
        | zero => omega
        | succ j =>
          have := g4 j (by omega)
          rw [show σ * d.nw + fr + (j + 1) = σ * d.nw + (fr + 1) + j by omega, this, ho1 _ (by omega)]
    · rw [if_neg he]
      refine ⟨fun j hj => ho1 j (by rw [List.length_cons] at hj; omega), 0, Nat.zero_le _, fun j hj => absurd hj (by omega), fun j hj => ho1 _ (by omega), fun e => absurd e he⟩
theorem erase_other (d : Dev) (s j : Nat) (hj : j < s * d.nw ∨ s * d.nw + d.nw ≤ j) : atB (eraseS d (s : Int)).1 j = atB d j := by
  unfold eraseS
  split
  · rfl
  · split
    · rfl
    · split
      · rfl
      · dsimp only
        rw [Int.toNat_natCast]
        exact eraseBits_at _ _ _ _ _ _ (by omega)
theorem erase_this {d : Dev} (ho : d.Ok) (s k : Nat) (hk : k < d.nw) (h : (eraseS d (s : Int)).2 = 0) : atB (eraseS d (s : Int)).1 (s * d.nw + k) = 4294967295 := by
  unfold eraseS at h ⊢
  by_cases hon : d.on = false
  · rw [if_pos hon] at h; cases h
  · rw [if_neg hon] at h ⊢
    by_cases hs : ¬ (0 ≤ (s : Int) ∧ (s : Int) < d.ns)
    · rw [if_pos hs] at h; cases h
    · rw [if_neg hs] at h ⊢
      by_cases hw : d.lim ≤ d.worn.getD (s : Int).toNat 0
      · rw [if_pos hw] at h; cases h
      · rw [if_neg hw] at h ⊢
        dsimp only at h ⊢
        by_cases hg : (goesS { d with worn := d.worn.set (s : Int).toNat (d.worn.getD (s : Int).toNat 0 + 1) }).2 = true
        · rw [if_pos hg] at h; cases h
        · have hg' : (goesS { d with worn := d.worn.set (s : Int).toNat (d.worn.getD (s : Int).toNat 0 + 1) }).2 = false := by
            cases hx : (goesS { d with worn := d.worn.set (s : Int).toNat (d.worn.getD (s : Int).toNat 0 + 1) }).2 <;> simp_all
          rw [hg', Int.toNat_natCast]
          show (eraseBits false d.seed d.bits (s * d.nw) d.nw).getD (s * d.nw + k) 0 = _
          rw [eraseBits_in false d.seed d.bits (s * d.nw) k d.nw hk (sect_hi d ho s (by omega))]
          rfl
theorem erases_other : ∀ (l : List Nat) {d : Dev} (t k : Nat), d.Ok → (∀ s ∈ l, s ≠ t) → k < d.nw → atB (erasesL d l).1 (t * d.nw + k) = atB d (t * d.nw + k)
  | [], d, t, k, _, _, _ => rfl
  | s :: l, d, t, k, ho, hl, hk => by
    have h1 := eraseS_ok ho (s : Int)
    have h2 := erase_dimsB d (s : Int)
    have hne : s ≠ t := hl s (by simp)
    have e1 : atB (eraseS d (s : Int)).1 (t * d.nw + k) = atB d (t * d.nw + k) := erase_other d s _ (by
      rcases Nat.lt_or_gt_of_ne hne with h | h
      · right
        have := Nat.mul_le_mul_right d.nw (show s + 1 ≤ t by omega)
        rw [Nat.add_mul, Nat.one_mul] at this
        omega
      · left
        have := Nat.mul_le_mul_right d.nw (show t + 1 ≤ s by omega)
        rw [Nat.add_mul, Nat.one_mul] at this
        omega)
    unfold erasesL
    split
    · have := erases_other l (d := (eraseS d (s : Int)).1) t k h1 (fun s' hs' => hl s' (by simp [hs'])) (by rw [h2.nw]; exact hk)
      rw [h2.nw] at this
      rw [this, e1]
    · exact e1

/-- The image that a device holds, on or off. -/
def latD (d : Dev) : Option (List Nat) := imgD { d with on := true }
theorem lat_on {d : Dev} (h : d.on = true) : imgD d = latD d := by
  have : ({ d with on := true } : Dev) = d := by rw [← h]
  unfold latD
  rw [this]
theorem lat_off {d : Dev} (h : d.on = false) : imgD d = none := by unfold imgD; rw [if_pos (.inl h)]
theorem atH_sect {d : Dev} (k : Nat) (hk : k < d.nw) (ho : d.Ok) (hns : 2 ≤ d.ns) : atH (sectL d 1) k = atB d (d.nw + k) := by
  have hin := in_bits ho (s := 1) (q := k) (by omega) hk
  have := sectL_get d 1 k hk
  unfold atH
  rw [List.getD_eq_getElem?_getD, this, Nat.one_mul, List.getElem?_eq_getElem (by omega)]
  unfold atB
  rw [List.getD_eq_getElem?_getD, List.getElem?_eq_getElem (by omega)]
  rfl
theorem valid_at {d : Dev} (ho : d.Ok) (hns : 2 ≤ d.ns) (hnw : 13 ≤ d.nw) : (headH (sectL d 1)).valid = true ↔
    (atB d (d.nw + 1) = cplJ (atB d (d.nw + 0)) ∧ atB d (d.nw + 3) = cplJ (atB d (d.nw + 2)) ∧ atB d (d.nw + 5) = cplJ (atB d (d.nw + 4)) ∧ atB d (d.nw + 7) = cplJ (atB d (d.nw + 6)) ∧ atB d (d.nw + 6) = 1668246893) := by
  show validH (sectL d 1) = true ↔ _
  unfold validH twoH
  rw [atH_sect 0 (by omega) ho hns, atH_sect (0 + 1) (by omega) ho hns, atH_sect 2 (by omega) ho hns, atH_sect (2 + 1) (by omega) ho hns, atH_sect 4 (by omega) ho hns, atH_sect (4 + 1) (by omega) ho hns, atH_sect 6 (by omega) ho hns, atH_sect (6 + 1) (by omega) ho hns]
  simp only [Bool.and_eq_true, beq_iff_eq]
  constructor
  · rintro ⟨⟨⟨⟨h1, h2⟩, h3⟩, h4⟩, h5⟩; exact ⟨h1, h2, h3, h4, h5⟩
  · rintro ⟨h1, h2, h3, h4, h5⟩; exact ⟨⟨⟨⟨h1, h2⟩, h3⟩, h4⟩, h5⟩
theorem head_at {d : Dev} (ho : d.Ok) (hns : 2 ≤ d.ns) (hnw : 13 ≤ d.nw) (hv : (headH (sectL d 1)).valid = true) : (headH (sectL d 1)).long = atB d (d.nw + 2) ∧ (headH (sectL d 1)).check = atB d (d.nw + 4) := by
  have hv' : validH (sectL d 1) = true := hv
  constructor
  · show (if validH (sectL d 1) then atH (sectL d 1) 2 else 0) = _
    rw [if_pos hv', atH_sect 2 (by omega) ho hns]
  · show (if validH (sectL d 1) then atH (sectL d 1) 4 else 0) = _
    rw [if_pos hv', atH_sect 4 (by omega) ho hns]
/-- No image: the first word isn't blank, or the header isn't right. -/
theorem lat_none {d : Dev} (h : atB d 0 ≠ 4294967295 ∨ (headH (sectL d 1)).valid = false) : latD d = none := by
  unfold latD imgD
  rw [if_pos]
  rcases h with h | h
  · refine .inr (.inl ?_)
    show d.bits.getD (0 * d.nw + 0) 0 ≠ _
    rw [Nat.zero_mul]
    exact h
  · exact .inr (.inr (.inl h))
theorem lat_six {d : Dev} (ho : d.Ok) (hns : 2 ≤ d.ns) (hnw : 13 ≤ d.nw) (h : atB d (d.nw + 6) = 4294967295 ∨ atB d (d.nw + 7) = 4294967295) : latD d = none := by
  refine lat_none (.inr ?_)
  cases hv : (headH (sectL d 1)).valid with
  | false => rfl
  | true =>
    obtain ⟨_, _, _, h4, h5⟩ := (valid_at ho hns hnw).1 hv
    rcases h with h | h
    · rw [h] at h5; cases h5
    · rw [h5] at h4
      rw [h] at h4
      exact absurd h4 (by decide)
/-- What the image depends on. -/
structure SameLat (d d' : Dev) : Prop where
  ns : d'.ns = d.ns
  nw : d'.nw = d.nw
  zero : atB d' 0 = atB d 0
  head : ∀ k, k < 8 → atB d' (d.nw + k) = atB d (d.nw + k)
  data : ∀ j, 2 * d.nw ≤ j → atB d' j = atB d j
theorem take_same {l l' : List Nat} (hl : l.length = l'.length) (a n : Nat) (h : ∀ j, a ≤ j → l'.getD j 0 = l.getD j 0) : (l'.drop a).take n = (l.drop a).take n := by
  congr 1
  refine List.ext_getElem (by simp [hl]) (fun j h1 h2 => ?_)
  rw [List.getElem_drop, List.getElem_drop]
  have := h (a + j) (by omega)
  rw [List.length_drop] at h1 h2
  rw [List.getD_eq_getElem?_getD, List.getD_eq_getElem?_getD, List.getElem?_eq_getElem (by omega), List.getElem?_eq_getElem (by omega)] at this
  exact this
theorem lat_same {d d' : Dev} (h : SameLat d d') (ho : d.Ok) (ho' : d'.Ok) (hns : 2 ≤ d.ns) (hnw : 13 ≤ d.nw) : latD d' = latD d := by
  have hv : (headH (sectL d' 1)).valid = (headH (sectL d 1)).valid := by
    rw [Bool.eq_iff_iff, valid_at ho hns hnw, valid_at ho' (by rw [h.ns]; exact hns) (by rw [h.nw]; exact hnw), h.nw]
    rw [h.head 0 (by decide), h.head 1 (by decide), h.head 2 (by decide), h.head 3 (by decide), h.head 4 (by decide), h.head 5 (by decide), h.head 6 (by decide), h.head 7 (by decide)]
  have hw : wdJ d' 0 0 = wdJ d 0 0 := by
    show d'.bits.getD (0 * d'.nw + 0) 0 = d.bits.getD (0 * d.nw + 0) 0
    rw [Nat.zero_mul, Nat.zero_mul]
    exact h.zero
  cases hvv : (headH (sectL d 1)).valid with
  | false => rw [lat_none (.inr hvv), lat_none (.inr (hv.trans hvv))]
  | true =>
    obtain ⟨a1, a2⟩ := head_at ho hns hnw hvv
    obtain ⟨b1, b2⟩ := head_at ho' (by rw [h.ns]; exact hns) (by rw [h.nw]; exact hnw) (hv.trans hvv)
    rw [h.nw, h.head 2 (by decide)] at b1
    rw [h.nw, h.head 4 (by decide)] at b2
    have hl : (headH (sectL d' 1)).long = (headH (sectL d 1)).long := b1.trans a1.symm
    have hc : (headH (sectL d' 1)).check = (headH (sectL d 1)).check := b2.trans a2.symm
    have hd : (d'.bits.drop (2 * d'.nw)).take (headH (sectL d' 1)).long = (d.bits.drop (2 * d.nw)).take (headH (sectL d 1)).long := by
      rw [h.nw, hl]
      exact take_same (by rw [ho.blen, ho'.blen, h.ns, h.nw]) _ _ (fun j hj => h.data j hj)
    show imgD { d' with on := true } = imgD { d with on := true }
    unfold imgD
    show (if true = false ∨ wdJ d' 0 0 ≠ 4294967295 ∨ (headH (sectL d' 1)).valid = false ∨ ((d'.ns : Int) - 2) * (d'.nw : Int) < ((headH (sectL d' 1)).long : Int) then none
      else if crcL ((d'.bits.drop (2 * d'.nw)).take (headH (sectL d' 1)).long) ≠ (headH (sectL d' 1)).check then none else some ((d'.bits.drop (2 * d'.nw)).take (headH (sectL d' 1)).long)) =
      (if true = false ∨ wdJ d 0 0 ≠ 4294967295 ∨ (headH (sectL d 1)).valid = false ∨ ((d.ns : Int) - 2) * (d.nw : Int) < ((headH (sectL d 1)).long : Int) then none
      else if crcL ((d.bits.drop (2 * d.nw)).take (headH (sectL d 1)).long) ≠ (headH (sectL d 1)).check then none else some ((d.bits.drop (2 * d.nw)).take (headH (sectL d 1)).long))
    rw [hd, hl, hc, hw, hv, h.ns, h.nw]

/-- While words may be put: the first word is blank, the header is, and the data are those that were put. -/
structure BlankB (x : BenS) : Prop where
  zero : atB x.d 0 = 4294967295
  head : ∀ k, k < 13 → atB x.d (x.d.nw + k) = 4294967295
  data : ∀ j, j < x.put.length → atB x.d (2 * x.d.nw + j) = x.put.getD j 0
/-- What holds behind each call: of the image that the device holds. -/
structure WInv (x : BenS) (last now : List Nat) (some : Bool) : Prop where
  blank : x.opn = true → BlankB x
  lat : ∀ a, latD x.d = .some a → (some = true ∧ a = last) ∨ a = now
def nowB (x : BenS) (o : BOp) (now : List Nat) : List Nat := if kindM o.kind = 3 ∧ x.opn = true ∧ 0 < x.put.length then x.put else now
theorem blank_none {x : BenS} (hB : BigB x.d) (h : BlankB x) : latD x.d = none := lat_six hB.ok (by have := hB.three; omega) hB.words (.inl (h.head 6 (by decide)))
theorem blank_bad {x : BenS} (hB : BigB x.d) (h : BlankB x) : badD x.d := by
  refine .inr (.inl ?_)
  cases hv : (headH (sectL x.d 1)).valid with
  | false => rfl
  | true =>
    obtain ⟨_, _, _, _, h5⟩ := (valid_at hB.ok (by have := hB.three; omega) hB.words).1 hv
    rw [h.head 6 (by decide)] at h5
    cases h5
theorem prog00 {d : Dev} (hB : BigB d) : latD (progS d 0 0 0).1 = none ∨ latD (progS d 0 0 0).1 = latD d := by
  have h1 := progS_ok hB.ok 0 0 0 (by decide)
  have h2 := prog_dims d 0 0 0
  have h3 : ∀ j, j ≠ 0 → atB (progS d 0 0 0).1 j = atB d j := fun j hj => prog_other d 0 0 0 j (by rw [Nat.zero_mul]; exact hj)
  have hn := hB.words
  by_cases h0 : atB (progS d 0 0 0).1 0 = atB d 0
  · right
    exact lat_same ⟨h2.ns, h2.nw, h0, fun k hk => h3 _ (by omega), fun j hj => h3 j (by omega)⟩ hB.ok h1 (by have := hB.three; omega) hn
  · by_cases hz : atB (progS d 0 0 0).1 0 = 4294967295
    · have hlt : atB d 0 < 4294967296 := bit_lt d hB.ok 0
      exfalso
      -- only bits are cleared
      have : atB (progS d 0 0 0).1 0 ||| atB d 0 = atB d 0 := by
        have := prog_clears hB.ok 0 0 0
        rw [Nat.zero_mul] at this
        exact this
      rw [hz] at this
      have h5 : 4294967295 ||| atB d 0 = 4294967295 := by rw [Nat.or_comm]; exact or_ones hlt
      rw [h5] at this
      exact h0 (hz.trans this)
    · left
      exact lat_none (.inl hz)
theorem begin_w {x : BenS} {last now : List Nat} {some : Bool} (hB : BigB x.d) (h : WInv x last now some) : WInv (beginD x).1 last now some := by
  have hns := hB.three
  have hnw := hB.words
  unfold beginD
  split
  · exact ⟨fun e => (by cases e), h.lat⟩
  · split
    · exact ⟨fun e => (by cases e), h.lat⟩
    · have hp1 := progS_ok hB.ok 0 0 0 (by decide)
      have hp2 := prog_dims x.d 0 0 0
      by_cases he : (progS x.d 0 0 0).2 = 0
      · have hb : begD x.d = erasesL (progS x.d 0 0 0).1 (ordE x.d.ns x.d.ns) := by unfold begD; rw [if_pos he]
        rw [hb]
        have h00 : atB (progS x.d 0 0 0).1 0 = 0 := by
          have := prog_this hB.ok 0 0 0 he
          rw [Nat.zero_mul] at this
          exact this
        obtain ⟨n, hn⟩ : ∃ n, x.d.ns = n + 2 := ⟨x.d.ns - 2, by omega⟩
        -- 1 first, 0 last, neither between
        have hord : ordE x.d.ns x.d.ns = 1 :: ((List.range n).map (fun i => i + 2) ++ [0]) := by
          rw [hn, ordE_succ, Nat.mod_self]
          unfold ordE
          rw [List.range_succ_eq_map, List.map_cons, List.cons_append]
          rw [show (0 + 1) % (n + 2) = 1 from Nat.mod_eq_of_lt (by omega)]
          congr 1
          congr 1
          rw [List.map_map]
          refine List.map_congr_left (fun i hi => ?_)
          have := List.mem_range.1 hi
          show (i + 1 + 1) % (n + 2) = _
          rw [Nat.mod_eq_of_lt (by omega)]
        rw [hord]
        generalize progS x.d 0 0 0 = r at *
        obtain ⟨d1, e1⟩ := r
        dsimp only at *
        have hok1 : d1.Ok := hp1
        have hnw1 : d1.nw = x.d.nw := hp2.nw
        have hns1 : d1.ns = x.d.ns := hp2.ns
        have k1 := eraseS_ok hok1 ((1 : Nat) : Int)
        have k2 := erase_dimsB d1 ((1 : Nat) : Int)
        have w0 : atB (eraseS d1 ((1 : Nat) : Int)).1 0 = 0 := (erase_other d1 1 0 (by omega)).trans h00
        have wb : (eraseS d1 ((1 : Nat) : Int)).2 = 0 → ∀ k, k < d1.nw → atB (eraseS d1 ((1 : Nat) : Int)).1 (d1.nw + k) = 4294967295 := fun e k hk => by
          have := erase_this hok1 1 k hk e
          rw [Nat.one_mul] at this
          exact this
        rw [erasesL]
        by_cases hs : (eraseS d1 ((1 : Nat) : Int)).2 = 0
        · rw [if_pos hs]
          have wb' := wb hs
          generalize eraseS d1 ((1 : Nat) : Int) = r at *
          obtain ⟨d2, e2⟩ := r
          dsimp only at *
          have hok2 : d2.Ok := k1
          have hnw2 : d2.nw = x.d.nw := k2.nw.trans hnw1
          have hns2 : d2.ns = x.d.ns := k2.ns.trans hns1
          obtain ⟨k3, k4⟩ := erasesL_ok ((List.range n).map (fun i => i + 2) ++ [0]) hok2
          have hne : ∀ s ∈ (List.range n).map (fun i => i + 2) ++ [0], s ≠ 1 := fun s hs => by
            rcases List.mem_append.1 hs with hs | hs
            · obtain ⟨i, _, rfl⟩ := List.mem_map.1 hs
              omega
            · simp at hs; omega
          have hh : ∀ k, k < x.d.nw → atB (erasesL d2 ((List.range n).map (fun i => i + 2) ++ [0])).1 (x.d.nw + k) = 4294967295 := fun k hk => by
            have e1 := erases_other _ 1 k hok2 hne (by omega)
            rw [Nat.one_mul, hnw2] at e1
            have e2 := wb' k (by omega)
            rw [hnw1] at e2
            rw [e1, e2]
          have hlat : latD (erasesL d2 ((List.range n).map (fun i => i + 2) ++ [0])).1 = none := lat_six k3 (by rw [k4.ns, hns2]; omega) (by rw [k4.nw, hnw2]; exact hnw) (.inl (by rw [k4.nw, hnw2]; exact hh 6 (by omega)))
          refine ⟨fun e => ⟨?_, fun k hk => ?_, fun j hj => absurd hj (by simp)⟩, fun a ha => ?_⟩
          · have e := of_decide_eq_true e
            obtain ⟨dm, em, hm⟩ : ∃ dm em, erasesL d2 ((List.range n).map (fun i => i + 2)) = (dm, em) := ⟨_, _, rfl⟩
            by_cases hz : em = 0
            · subst hz
              have hsn := erasesL_snoc _ d2 dm 0 hm
              rw [hsn] at e ⊢
              have hokm : dm.Ok := by have := (erasesL_ok ((List.range n).map (fun i => i + 2)) hok2).1; rw [hm] at this; exact this
              have := erase_this hokm 0 0 (by have := hokm.nw1; omega) e
              rw [Nat.zero_mul] at this
              exact this
            · have hst := erasesL_stop _ [0] d2 dm em hm hz
              rw [hst] at e
              exact absurd e hz
          · show atB _ ((erasesL d2 ((List.range n).map (fun i => i + 2) ++ [0])).1.nw + k) = _
            rw [k4.nw, hnw2]
            exact hh k (by omega)
          · have ha' : latD (erasesL d2 ((List.range n).map (fun i => i + 2) ++ [0])).1 = .some a := ha
            rw [hlat] at ha'
            cases ha'
        · rw [if_neg hs]
          have hlat : latD (eraseS d1 ((1 : Nat) : Int)).1 = none := lat_none (.inl (by rw [w0]; decide))
          refine ⟨fun e => absurd (of_decide_eq_true e) hs, fun a ha => ?_⟩
          have ha' : latD (eraseS d1 ((1 : Nat) : Int)).1 = .some a := ha
          rw [hlat] at ha'
          cases ha'
      · have hb : begD x.d = progS x.d 0 0 0 := by unfold begD; rw [if_neg he]
        rw [hb]
        refine ⟨fun e => absurd (of_decide_eq_true e) he, fun a ha => ?_⟩
        have ha' : latD (progS x.d 0 0 0).1 = .some a := ha
        rcases prog00 hB with hc | hc
        · rw [hc] at ha'; cases ha'
        · rw [hc] at ha'; exact h.lat a ha'
theorem put_w {x : BenS} {last now : List Nat} {some : Bool} (hB : BigB x.d) (hlen : x.put.length ≤ (x.d.ns - 2) * x.d.nw) (h : WInv x last now some) (l : List Nat) (hl : ∀ y ∈ l, y < 4294967296) : WInv (putD x l).1 last now some := by
  have hns := hB.three
  have hnw := hB.words
  unfold putD
  by_cases ho : x.opn = false
  · rw [if_pos ho]
    exact h
  · rw [if_neg ho]
    have ht : x.opn = true := by cases hx : x.opn <;> simp_all
    have hb := h.blank ht
    by_cases hc : (((x.d.ns : Int) - 2) * (x.d.nw : Int)) - (x.put.length : Int) < (l.length : Int)
    · rw [if_pos hc]
      exact h
    · rw [if_neg hc]
      obtain ⟨g1, m, g2, g3, g4, g5⟩ := progsD_words l 2 x.put.length hB.ok hl
      obtain ⟨k1, k2⟩ := progsD_ok l 2 x.put.length hB.ok hl
      have hh : ∀ k, k < 13 → atB (progsD x.d 2 x.put.length l).1 (x.d.nw + k) = 4294967295 := fun k hk => by rw [g1 _ (by omega)]; exact hb.head k hk
      have hlat : latD (progsD x.d 2 x.put.length l).1 = none := lat_six k1 (by rw [k2.ns]; omega) (by rw [k2.nw]; exact hnw) (.inl (by rw [k2.nw]; exact hh 6 (by decide)))
      refine ⟨fun e => ⟨?_, fun k hk => ?_, fun j hj => ?_⟩, fun a ha => ?_⟩
      · show atB (progsD x.d 2 x.put.length l).1 0 = _
        rw [g1 0 (by omega)]
        exact hb.zero
      · show atB (progsD x.d 2 x.put.length l).1 ((progsD x.d 2 x.put.length l).1.nw + k) = _
        rw [k2.nw]
        exact hh k hk
      · have hm := g5 (of_decide_eq_true e)
        show atB (progsD x.d 2 x.put.length l).1 (2 * (progsD x.d 2 x.put.length l).1.nw + j) = (x.put ++ l).getD j 0
        rw [k2.nw]
        have hj' : j < (x.put ++ l).length := hj
        rw [List.length_append] at hj'
        by_cases hjp : j < x.put.length
        · rw [g1 _ (by omega), hb.data j hjp, List.getD_eq_getElem?_getD, List.getD_eq_getElem?_getD, List.getElem?_append_left hjp]
        · have := g3 (j - x.put.length) (by omega)
          rw [show 2 * x.d.nw + x.put.length + (j - x.put.length) = 2 * x.d.nw + j by omega] at this
          rw [this, List.getD_eq_getElem?_getD, List.getD_eq_getElem?_getD, List.getElem?_append_right (by omega)]
      · have ha' : latD (progsD x.d 2 x.put.length l).1 = .some a := ha
        rw [hlat] at ha'
        cases ha'

theorem commit_w {x : BenS} {last now : List Nat} {some : Bool} (hB : BigB x.d) (hlen : x.put.length ≤ (x.d.ns - 2) * x.d.nw) (h : WInv x last now some) (q : Nat) (hq : q < 4294967296) :
    WInv (commitD x q).1 last (if x.opn = true ∧ 0 < x.put.length then x.put else now) some := by
  have hns := hB.three
  have hnw := hB.words
  have hrm := hB.room
  unfold commitD
  by_cases ho : x.opn = false
  · rw [if_pos (.inl ho), if_neg (by rw [ho]; simp)]
    exact h
  · have ht : x.opn = true := by cases hx : x.opn <;> simp_all
    by_cases h0 : x.put = []
    · rw [if_pos (.inr h0), if_neg (by rw [h0]; simp)]
      exact h
    · have hpos : 0 < x.put.length := List.length_pos_iff.2 h0
      rw [if_neg (by rintro (e | e); exact ho e; exact h0 e), if_pos ⟨ht, hpos⟩]
      have hb := h.blank ht
      have h32 : ∀ y ∈ (wordsH q x.put.length (crcL x.put) false).take 8, y < 4294967296 := fun y hy => wordsH_lt hq (by omega) (crcL_lt _) y (List.mem_of_mem_take hy)
      obtain ⟨g1, m, g2, g3, g4, g5⟩ := progsD_words ((wordsH q x.put.length (crcL x.put) false).take 8) 1 0 hB.ok h32
      obtain ⟨k1, k2⟩ := progsD_ok ((wordsH q x.put.length (crcL x.put) false).take 8) 1 0 hB.ok h32
      have hl8 : ((wordsH q x.put.length (crcL x.put) false).take 8).length = 8 := rfl
      rw [hl8] at g1 g2 g5
      have hw : ∀ k, ((wordsH q x.put.length (crcL x.put) false).take 8).getD k 0 = [q, cplJ q, x.put.length, cplJ x.put.length, crcL x.put, cplJ (crcL x.put), 1668246893, cplJ 1668246893].getD k 0 := fun k => rfl
      generalize (wordsH q x.put.length (crcL x.put) false).take 8 = W at *
      generalize progsD x.d 1 0 W = r at *
      obtain ⟨d', e⟩ := r
      dsimp only at *
      refine ⟨fun e => (by cases e), fun a ha => ?_⟩
      right
      have ha' : latD d' = .some a := ha
      have hnw' : d'.nw = x.d.nw := k2.nw
      have hns' : d'.ns = x.d.ns := k2.ns
      cases hv : (headH (sectL d' 1)).valid with
      | false => rw [lat_none (.inr hv)] at ha'; cases ha'
      | true =>
        obtain ⟨_, _, _, v4, v5⟩ := (valid_at k1 (by omega) (by omega)).1 hv
        obtain ⟨a1, a2⟩ := head_at k1 (by omega) (by omega) hv
        rw [hnw'] at v4 v5 a1 a2
        have hm7 : 7 ≤ m := by
          refine Classical.byContradiction fun hc => ?_
          have e7 := g4 7 (by omega)
          rw [Nat.one_mul, Nat.add_zero, hb.head 7 (by decide)] at e7
          rw [v5, e7] at v4
          exact absurd v4 (by decide)
        have w2 := g3 2 (by omega)
        have w4 := g3 4 (by omega)
        rw [hw, Nat.one_mul, Nat.add_zero] at w2 w4
        have l2 : (headH (sectL d' 1)).long = x.put.length := a1.trans w2
        have c4 : (headH (sectL d' 1)).check = crcL x.put := a2.trans w4
        have hdat : (d'.bits.drop (2 * d'.nw)).take (headH (sectL d' 1)).long = x.put := by
          rw [l2, hnw']
          have hbl : d'.bits.length = x.d.ns * x.d.nw := by rw [k1.blen, hns', hnw']
          have hmul : x.d.ns * x.d.nw = 2 * x.d.nw + (x.d.ns - 2) * x.d.nw := by rw [← Nat.add_mul]; congr 1; omega
          refine List.ext_getElem (by rw [List.length_take, List.length_drop]; omega) (fun j h1 h2 => ?_)
          rw [List.getElem_take, List.getElem_drop]
          have e1 := (g1 (2 * x.d.nw + j) (by omega)).trans (hb.data j h2)
          rw [List.length_take, List.length_drop] at h1
          unfold atB at e1
          rw [List.getD_eq_getElem?_getD, List.getD_eq_getElem?_getD, List.getElem?_eq_getElem (by omega), List.getElem?_eq_getElem h2] at e1
          exact e1
        unfold latD imgD at ha'
        have hd1 : ({ d' with on := true } : Dev).bits = d'.bits := rfl
        have hd2 : sectL ({ d' with on := true } : Dev) 1 = sectL d' 1 := rfl
        have hd3 : ({ d' with on := true } : Dev).nw = d'.nw := rfl
        rw [hd1, hd2, hd3, hdat] at ha'
        split at ha'
        · cases ha'
        · split at ha'
          · cases ha'
          · cases ha'
            rfl
theorem same_lat {d d' : Dev} (hB : BigB d) (ho' : d'.Ok) (hd : DimsJ d d') (h : ∀ j, j < d.nw + 8 ∨ 2 * d.nw ≤ j → atB d' j = atB d j) : latD d' = latD d :=
  lat_same ⟨hd.ns, hd.nw, h 0 (by omega), fun k hk => h _ (by omega), fun j hj => h j (.inr hj)⟩ hB.ok ho' (by have := hB.three; omega) hB.words
theorem nextT_lt : ∀ (f : Nat) (l : List Nat) (k i : Nat), nextT l f k = some i → 10 + k ≤ i ∧ i < 10 + k + f
  | 0, l, k, i, h => by cases h
  | f + 1, l, k, i, h => by
    rw [nextT] at h
    split at h
    · cases h; omega
    · have := nextT_lt f l (k + 1) i h
      omega
theorem mark_w {x : BenS} {last now : List Nat} {some : Bool} (hB : BigB x.d) (h : WInv x last now some) (tr : Bool) : WInv (markD x tr).1 last now some := by
  have hns := hB.three
  have hnw := hB.words
  unfold markD
  by_cases hon : x.d.on = false
  · rw [if_pos hon]; exact h
  · rw [if_neg hon]
    by_cases hbad : badD x.d
    · rw [if_pos hbad]; exact h
    · rw [if_neg hbad]
      have hno : x.opn = true → False := fun e => hbad (blank_bad hB (h.blank e))
      cases tr with
      | true =>
        rw [if_pos rfl]
        cases hn : nextT (sectL x.d 1) 3 0 with
        | none => exact h
        | some i =>
          have hi := nextT_lt 3 (sectL x.d 1) 0 i hn
          have k1 := progS_ok hB.ok (1 : Int) (i : Int) 0 (by decide)
          have k2 := prog_dims x.d (1 : Int) (i : Int) 0
          have hs : latD (progS x.d (1 : Int) (i : Int) 0).1 = latD x.d := same_lat hB k1 k2 (fun j hj => prog_other x.d 1 i 0 j (by omega))
          exact ⟨fun e => (hno e).elim, fun a ha => h.lat a (hs ▸ ha)⟩
      | false =>
        rw [if_neg (by decide)]
        have h32 : ∀ y ∈ [1668247142, cplJ 1668247142], y < 4294967296 := fun y hy => by
          have h5 := cpl_lt 1668247142
          simp only [List.mem_cons, List.not_mem_nil, or_false] at hy
          rcases hy with rfl | rfl
          · decide
          · exact h5
        obtain ⟨g1, _⟩ := progsD_words [1668247142, cplJ 1668247142] 1 8 hB.ok h32
        obtain ⟨k1, k2⟩ := progsD_ok [1668247142, cplJ 1668247142] 1 8 hB.ok h32
        have hs : latD (progsD x.d 1 8 [1668247142, cplJ 1668247142]).1 = latD x.d := same_lat hB k1 k2 (fun j hj => g1 j (by rw [show ([1668247142, cplJ 1668247142] : List Nat).length = 2 from rfl]; omega))
        exact ⟨fun e => (hno e).elim, fun a ha => h.lat a (hs ▸ ha)⟩
theorem one_w {x : BenS} {b : BkS} {last now : List Nat} {some : Bool} (hs : SameB x b) (hB : BigB x.d) (h : WInv x last now some) (o : BOp) (hl : ∀ y ∈ o.l, y < 4294967296) : WInv (oneD x o) last (nowB x o now) some := by
  unfold oneD nowB
  by_cases h0 : kindM o.kind = 0
  · rw [if_pos h0, if_neg (by omega)]
    exact begin_w hB h
  · rw [if_neg h0]
    by_cases h3 : kindM o.kind = 3
    · rw [if_pos h3]
      have := commit_w hB hs.len h (qB o.n) (qB_lt _)
      by_cases hc : x.opn = true ∧ 0 < x.put.length
      · rw [if_pos hc] at this
        rw [if_pos ⟨h3, hc⟩]
        exact this
      · rw [if_neg hc] at this
        rw [if_neg (fun e => hc e.2)]
        exact this
    · rw [if_neg h3, if_neg (show ¬ (kindM o.kind = 3 ∧ x.opn = true ∧ 0 < x.put.length) from fun e => h3 e.1)]
      split
      · exact mark_w hB h false
      · split
        · exact mark_w hB h true
        · split
          · exact ⟨fun e => ⟨(h.blank e).zero, (h.blank e).head, (h.blank e).data⟩, h.lat⟩
          · split
            · exact ⟨fun e => ⟨(h.blank e).zero, (h.blank e).head, (h.blank e).data⟩, h.lat⟩
            · exact put_w hB hs.len h o.l hl
/-- What the law looks at behind a call. -/
theorem seen_yes {x : BenS} {last now a : List Nat} {some : Bool} (h : WInv x last now some) (ha : imgD x.d = .some a) : ((some = true ∧ a = last) ∨ a = now) ∧ WInv x a now true := by
  have hon : x.d.on = true := by
    cases hx : x.d.on with
    | true => rfl
    | false => rw [lat_off hx] at ha; cases ha
  rw [lat_on hon] at ha
  refine ⟨h.lat a ha, h.blank, fun a' ha' => ?_⟩
  rw [ha] at ha'
  cases ha'
  exact .inl ⟨rfl, rfl⟩
theorem seen_no {x : BenS} {last now : List Nat} {some : Bool} (h : WInv x last now some) (ha : imgD x.d = none) : WInv x last now (some && !x.d.on) := by
  cases hx : x.d.on with
  | false => simpa using h
  | true =>
    rw [lat_on hx] at ha
    exact ⟨h.blank, fun a' ha' => by rw [ha] at ha'; cases ha'⟩
theorem start_w (lim : Nat) : WInv (x0B lim) [] [] false := by
  refine ⟨fun e => (by cases e), fun a ha => ?_⟩
  rw [lat_none] at ha
  · cases ha
  · right
    show (headH (sectL (newD 4 13 lim) 1)).valid = false
    kernel_rfl
end Go.Proofs.Yteanpgkonhdbpaa
