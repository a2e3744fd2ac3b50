/- What a bank's calls leave is a device again; the bank of the law's own trial; a fresh device's bank. No condition. What one word programmed, one sector erased does to the others; in plain lists. No condition. -/
import Derived.Test.YteanpgkonhdbpaaBkT
import Derived.Test.YteanpgkonhdbpaaBkG
import Derived.Test.YteanpgkonhdbpaaBkX
import Derived.Test.YteanpgkonhdbpaaFlashBitsLaw
namespace Go.Proofs.Yteanpgkonhdbpaa
open Go.RowKit

theorem erase_dimsB (d : Dev) (s : Int) : DimsJ d (eraseS d s).1 := by
  unfold eraseS
  split
  · exact DimsJ.refl d
  · rename_i hon
    split
    · exact DimsJ.refl d
    · dsimp only
      split
      · exact DimsJ.refl d
      · have hd := (goes_cases (d := { d with worn := d.worn.set s.toNat (d.worn.getD s.toNat 0 + 1) }) (by simpa using hon)).2.2.2
        exact ⟨hd.ns, hd.nw, hd.lim⟩
theorem erasesL_ok : ∀ (l : List Nat) {d : Dev}, d.Ok → (erasesL d l).1.Ok ∧ DimsJ d (erasesL d l).1
  | [], d, h => ⟨h, DimsJ.refl d⟩
  | s :: l, d, h => by
    have h1 := eraseS_ok h (s : Int)
    have h2 := erase_dimsB d (s : Int)
    unfold erasesL
    split
    · obtain ⟨h3, h4⟩ := erasesL_ok l h1
      exact ⟨h3, h2.trans h4⟩
    · exact ⟨h1, h2⟩
theorem beginB_ok {d : Dev} (h : d.Ok) (b : BkS) : (beginB d b).1.Ok ∧ DimsJ d (beginB d b).1 := by
  have h1 := progS_ok h (b.base : Int) 0 0 (by decide)
  have h2 := prog_dims d (b.base : Int) 0 0
  obtain ⟨h3, h4⟩ := erasesL_ok (secOrd b.base b.many) h1
  unfold beginB
  split
  · exact ⟨h, DimsJ.refl d⟩
  · split
    · exact ⟨h, DimsJ.refl d⟩
    · split
      · split
        · exact ⟨h3, h2.trans h4⟩
        · exact ⟨h3, h2.trans h4⟩
      · exact ⟨h1, h2⟩
theorem putL_ok : ∀ (l : List Nat) {d : Dev} (b : BkS), d.Ok → (∀ x ∈ l, x < 4294967296) → (putL d b l).1.Ok ∧ DimsJ d (putL d b l).1
  | [], d, _, h, _ => ⟨h, DimsJ.refl d⟩
  | x :: l, d, b, h, hl => by
    have h1 := progS_ok h ((b.base + 2 + b.pn / d.nw : Nat) : Int) ((b.pn % d.nw : Nat) : Int) x (hl x (by simp))
    have h2 := prog_dims d ((b.base + 2 + b.pn / d.nw : Nat) : Int) ((b.pn % d.nw : Nat) : Int) x
    rw [putL]
    split
    · obtain ⟨h3, h4⟩ := putL_ok l { b with pn := b.pn + 1, s := wordC b.s x, m := b.m + 4 } h1 (fun y hy => hl y (by simp [hy]))
      exact ⟨h3, h2.trans h4⟩
    · exact ⟨h1, h2⟩
theorem putB_ok {d : Dev} (h : d.Ok) (b : BkS) {l : List Nat} (hl : ∀ x ∈ l, x < 4294967296) : (putB d b l).1.Ok ∧ DimsJ d (putB d b l).1 := by
  unfold putB
  split
  · exact ⟨h, DimsJ.refl d⟩
  · split
    · exact ⟨h, DimsJ.refl d⟩
    · exact putL_ok l b h hl
theorem commitB_ok {d : Dev} (h : d.Ok) (b : BkS) {q : Nat} (hq : q < 4294967296) (hp : b.pn ≤ 100000) (_hs : b.s < 4294967296) : (commitB d b q).1.Ok ∧ DimsJ d (commitB d b q).1 := by
  have h1 := progsH_ok (headW q b.pn (cplJ b.s)) d (b.base + 1) h (headW_lt hq (by omega) (cpl_lt _))
  have h2 := progsH_ok (pairH 6 1668246893) (progsH d (b.base + 1) (headW q b.pn (cplJ b.s))).1 (b.base + 1) h1.1 (pairH_lt (by decide))
  unfold commitB
  split
  · exact ⟨h, DimsJ.refl d⟩
  · split
    · exact ⟨h2.1, h1.2.trans h2.2⟩
    · exact h1
theorem confirmB_ok {d : Dev} (h : d.Ok) (b : BkS) : (confirmB d b).1.Ok ∧ DimsJ d (confirmB d b).1 := by
  have h1 := progsH_ok (pairH 8 1668247142) d (b.base + 1) h (pairH_lt (by decide))
  unfold confirmB
  split
  · exact ⟨h, DimsJ.refl d⟩
  · split
    · exact ⟨h, DimsJ.refl d⟩
    · exact h1
theorem tryB_ok {d : Dev} (h : d.Ok) (b : BkS) : (tryB d b).1.Ok ∧ DimsJ d (tryB d b).1 := by
  unfold tryB
  split
  · exact ⟨h, DimsJ.refl d⟩
  · split
    · exact ⟨h, DimsJ.refl d⟩
    · split
      · exact ⟨h, DimsJ.refl d⟩
      · exact ⟨progS_ok h _ _ 0 (by decide), prog_dims d _ _ 0⟩

/-- The trial's device and bank, and what is left behind its calls. -/
noncomputable def d0B : Dev := newD 4 16 9
noncomputable def b0B : BkS := newB 1 3
noncomputable def r1B : Dev × BkS × Int := beginB d0B b0B
noncomputable def r2B : Dev × BkS × Int := putB r1B.1 r1B.2.1 [1, 2]
noncomputable def r3B : Dev × BkS × Int := commitB r2B.1 r2B.2.1 7
theorem d0B_ok : d0B.Ok := newD_ok 4 16 9 (by decide) (by decide) (by decide) (by decide) (by decide)
theorem r1B_b : r1B.2.1 = ⟨1, 3, true, 0, 4294967295, 0⟩ := by kernel_rfl
theorem r1B_e : r1B.2.2 = 0 := by kernel_rfl
theorem r1B_ok : r1B.1.Ok ∧ DimsJ d0B r1B.1 := beginB_ok d0B_ok _
theorem r2B_e : r2B.2.2 = 0 := by kernel_rfl
theorem r2B_b : (r2B.2.1.base, r2B.2.1.many, r2B.2.1.pn) = (1, 3, 2) := by kernel_rfl
theorem r2B_s : decide (r2B.2.1.s < 4294967296) = true := by kernel_rfl
theorem r2B_ok : r2B.1.Ok ∧ DimsJ d0B r2B.1 := by
  have h := putB_ok r1B_ok.1 r1B.2.1 (l := [1, 2]) (by decide)
  exact ⟨h.1, r1B_ok.2.trans h.2⟩
theorem r3B_e : r3B.2.2 = 0 := by kernel_rfl
theorem r3B_b : (r3B.2.1.base, r3B.2.1.many) = (1, 3) := by kernel_rfl
theorem r3B_ok : r3B.1.Ok ∧ DimsJ d0B r3B.1 := by
  have h := commitB_ok r2B_ok.1 r2B.2.1 (q := 7) (by decide) (by have := congrArg (fun x => x.2.2) r2B_b; dsimp only at this; omega) (of_decide_eq_true r2B_s)
  exact ⟨h.1, r2B_ok.2.trans h.2⟩
theorem r3B_im : imageB r3B.1 r3B.2.1 = some [1, 2] := by kernel_rfl
theorem r3B_seq : (stateB r3B.1 r3B.2.1).seq = 7 := by kernel_rfl
end Go.Proofs.Yteanpgkonhdbpaa

namespace Go.Proofs.Yteanpgkonhdbpaa
open Go.RowKit

abbrev atB (d : Dev) (j : Nat) : Nat := d.bits.getD j 0
theorem goes_bits (d : Dev) : (goesS d).1.bits = d.bits ∧ (goesS d).1.nw = d.nw ∧ (goesS d).1.ns = d.ns := by
  unfold goesS
  split
  · split <;> exact ⟨rfl, rfl, rfl⟩
  · exact ⟨rfl, rfl, rfl⟩
theorem prog_other (d : Dev) (σ k v j : Nat) (hj : j ≠ σ * d.nw + k) : atB (progS d (σ : Int) (k : Int) v).1 j = atB d j := by
  unfold progS
  split
  · rfl
  · split
    · rfl
    · dsimp only
      split
      · rfl
      · rw [atS_nat]
        split
        · exact getD_set_ne' _ _ _ _ (Ne.symm hj)
        · exact getD_set_ne' _ _ _ _ (Ne.symm hj)
theorem prog_this {d : Dev} (ho : d.Ok) (σ k v : Nat) (h : (progS d (σ : Int) (k : Int) v).2 = 0) : atB (progS d (σ : Int) (k : Int) v).1 (σ * d.nw + k) = v := by
  unfold progS at h ⊢
  by_cases hon : d.on = false
  · rw [if_pos hon] at h; cases h
  · rw [if_neg hon] at h ⊢
    by_cases hi : isS d (σ : Int) (k : Int) = false
    · rw [if_pos hi] at h; cases h
    · rw [if_neg hi] at h ⊢
      dsimp only at h ⊢
      by_cases hv : v ||| d.bits.getD (atS d (σ : Int) (k : Int)) 0 ≠ d.bits.getD (atS d (σ : Int) (k : Int)) 0
      · rw [if_pos hv] at h; cases h
      · rw [if_neg hv] at h ⊢
        by_cases hg : (goesS d).2 = true
        · rw [if_pos hg] at h; cases h
        · rw [if_neg hg]
          rw [atS_nat]
          have hi' : isS d (σ : Int) (k : Int) = true := by cases hx : isS d (σ : Int) (k : Int) <;> simp_all
          unfold isS at hi'
          have := of_decide_eq_true hi'
          exact getD_set_self' _ _ _ (in_bits ho (by omega) (by omega))
theorem prog_clears {d : Dev} (ho : d.Ok) (σ k v : Nat) : atB (progS d (σ : Int) (k : Int) v).1 (σ * d.nw + k) ||| atB d (σ * d.nw + k) = atB d (σ * d.nw + k) := by
  unfold progS
  split
  · exact Nat.or_self _
  · split
    · exact Nat.or_self _
    · rename_i hi
      dsimp only
      split
      · exact Nat.or_self _
      · rename_i hv
        have hi' : isS d (σ : Int) (k : Int) = true := by cases hx : isS d (σ : Int) (k : Int) <;> simp_all
        unfold isS at hi'
        have := of_decide_eq_true hi'
        have hin := in_bits ho (s := σ) (q := k) (by omega) (by omega)
        rw [atS_nat] at hv ⊢
        split
        · show (d.bits.set (σ * d.nw + k) _).getD _ 0 ||| _ = _
          rw [getD_set_self' _ _ _ hin]
          apply Nat.eq_of_testBit_eq
          intro i
          rw [Nat.testBit_or, Nat.testBit_and]
          cases Nat.testBit (d.bits.getD (σ * d.nw + k) 0) i <;> simp
        · show (d.bits.set (σ * d.nw + k) _).getD _ 0 ||| _ = _
          rw [getD_set_self' _ _ _ hin]
          exact Classical.byContradiction hv
theorem flatB_at {nw : Nat} (_h : 1 ≤ nw) (σ at_ : Nat) : (σ + at_ / nw) * nw + at_ % nw = σ * nw + at_ := by
  rw [Nat.add_mul]
  have := Nat.div_add_mod at_ nw
  rw [Nat.mul_comm] at this
  omega
theorem erase_other (d : Dev) (s j : Nat) (hj : j < s * d.nw ∨ s * d.nw + d.nw ≤ j) : atB (eraseS d (s : Int)).1 j = atB d j := by
  unfold eraseS
  split
  · rfl
  · split
    · rfl
    · split
      · rfl
      · dsimp only
        rw [Int.toNat_natCast]
        exact eraseBits_at _ _ _ _ _ _ (by omega)
theorem erase_this {d : Dev} (ho : d.Ok) (s k : Nat) (hk : k < d.nw) (h : (eraseS d (s : Int)).2 = 0) : atB (eraseS d (s : Int)).1 (s * d.nw + k) = 4294967295 := by
  unfold eraseS at h ⊢
  by_cases hon : d.on = false
  · rw [if_pos hon] at h; cases h
  · rw [if_neg hon] at h ⊢
    by_cases hs : ¬ (0 ≤ (s : Int) ∧ (s : Int) < d.ns)
    · rw [if_pos hs] at h; cases h
    · rw [if_neg hs] at h ⊢
      by_cases hw : d.lim ≤ d.worn.getD (s : Int).toNat 0
      · rw [if_pos hw] at h; cases h
      · rw [if_neg hw] at h ⊢
        dsimp only at h ⊢
        by_cases hg : (goesS { d with worn := d.worn.set (s : Int).toNat (d.worn.getD (s : Int).toNat 0 + 1) }).2 = true
        · rw [if_pos hg] at h; cases h
        · have hg' : (goesS { d with worn := d.worn.set (s : Int).toNat (d.worn.getD (s : Int).toNat 0 + 1) }).2 = false := by
            cases hx : (goesS { d with worn := d.worn.set (s : Int).toNat (d.worn.getD (s : Int).toNat 0 + 1) }).2 <;> simp_all
          rw [hg', Int.toNat_natCast]
          show (eraseBits false d.seed d.bits (s * d.nw) d.nw).getD (s * d.nw + k) 0 = _
          rw [eraseBits_in false d.seed d.bits (s * d.nw) k d.nw hk (sect_hi d ho s (by omega))]
          rfl
theorem erases_other : ∀ (l : List Nat) {d : Dev} (t k : Nat), d.Ok → (∀ s ∈ l, s ≠ t) → k < d.nw → atB (erasesL d l).1 (t * d.nw + k) = atB d (t * d.nw + k)
  | [], d, t, k, _, _, _ => rfl
  | s :: l, d, t, k, ho, hl, hk => by
    have h1 := eraseS_ok ho (s : Int)
    have h2 := erase_dimsB d (s : Int)
    have hne : s ≠ t := hl s (by simp)
    have e1 : atB (eraseS d (s : Int)).1 (t * d.nw + k) = atB d (t * d.nw + k) := erase_other d s _ (by
      rcases Nat.lt_or_gt_of_ne hne with h | h
      · right
        have := Nat.mul_le_mul_right d.nw (show s + 1 ≤ t by omega)
        rw [Nat.add_mul, Nat.one_mul] at this
        omega
      · left
        have := Nat.mul_le_mul_right d.nw (show t + 1 ≤ s by omega)
        rw [Nat.add_mul, Nat.one_mul] at this
        omega)
    unfold erasesL
    split
    · have := erases_other l (d := (eraseS d (s : Int)).1) t k h1 (fun s' hs' => hl s' (by simp [hs'])) (by rw [h2.nw]; exact hk)
      rw [h2.nw] at this
      rw [this, e1]
    · exact e1

end Go.Proofs.Yteanpgkonhdbpaa
