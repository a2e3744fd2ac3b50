/- What a bank's calls leave is a device again; the bank of the law's own trial; a fresh device's bank. No condition. -/
import Derived.Test.YteanpgkonhdbpaaBkT
import Derived.Test.YteanpgkonhdbpaaBkG
import Derived.Test.YteanpgkonhdbpaaBkX
namespace Go.Proofs.Yteanpgkonhdbpaa
open Go.RowKit

theorem erase_dimsB (d : Dev) (s : Int) : DimsJ d (eraseS d s).1 := by
  unfold eraseS
  split
  · exact DimsJ.refl d
  · rename_i hon
    split
    · exact DimsJ.refl d
    · dsimp only
      split
      · exact DimsJ.refl d
      · have hd := (goes_cases (d := { d with worn := d.worn.set s.toNat (d.worn.getD s.toNat 0 + 1) }) (by simpa using hon)).2.2.2
        exact ⟨hd.ns, hd.nw, hd.lim⟩
theorem erasesL_ok : ∀ (l : List Nat) {d : Dev}, d.Ok → (erasesL d l).1.Ok ∧ DimsJ d (erasesL d l).1
  | [], d, h => ⟨h, DimsJ.refl d⟩
  | s :: l, d, h => by
    have h1 := eraseS_ok h (s : Int)
    have h2 := erase_dimsB d (s : Int)
    unfold erasesL
    split
    · obtain ⟨h3, h4⟩ := erasesL_ok l h1
      exact ⟨h3, h2.trans h4⟩
    · exact ⟨h1, h2⟩
theorem beginB_ok {d : Dev} (h : d.Ok) (b : BkS) : (beginB d b).1.Ok ∧ DimsJ d (beginB d b).1 := by
  have h1 := progS_ok h (b.base : Int) 0 0 (by decide)
  have h2 := prog_dims d (b.base : Int) 0 0
  obtain ⟨h3, h4⟩ := erasesL_ok (secOrd b.base b.many) h1
  unfold beginB
  split
  · exact ⟨h, DimsJ.refl d⟩
  · split
    · exact ⟨h, DimsJ.refl d⟩
    · split
      · split
        · exact ⟨h3, h2.trans h4⟩
        · exact ⟨h3, h2.trans h4⟩
      · exact ⟨h1, h2⟩
theorem putL_ok : ∀ (l : List Nat) {d : Dev} (b : BkS), d.Ok → (∀ x ∈ l, x < 4294967296) → (putL d b l).1.Ok ∧ DimsJ d (putL d b l).1
  | [], d, _, h, _ => ⟨h, DimsJ.refl d⟩
  | x :: l, d, b, h, hl => by
    have h1 := progS_ok h ((b.base + 2 + b.pn / d.nw : Nat) : Int) ((b.pn % d.nw : Nat) : Int) x (hl x (by simp))
    have h2 := prog_dims d ((b.base + 2 + b.pn / d.nw : Nat) : Int) ((b.pn % d.nw : Nat) : Int) x
    rw [putL]
    split
    · obtain ⟨h3, h4⟩ := putL_ok l { b with pn := b.pn + 1, s := wordC b.s x, m := b.m + 4 } h1 (fun y hy => hl y (by simp [hy]))
      exact ⟨h3, h2.trans h4⟩
    · exact ⟨h1, h2⟩
theorem putB_ok {d : Dev} (h : d.Ok) (b : BkS) {l : List Nat} (hl : ∀ x ∈ l, x < 4294967296) : (putB d b l).1.Ok ∧ DimsJ d (putB d b l).1 := by
  unfold putB
  split
  · exact ⟨h, DimsJ.refl d⟩
  · split
    · exact ⟨h, DimsJ.refl d⟩
    · exact putL_ok l b h hl
theorem commitB_ok {d : Dev} (h : d.Ok) (b : BkS) {q : Nat} (hq : q < 4294967296) (hp : b.pn ≤ 100000) (hs : b.s < 4294967296) : (commitB d b q).1.Ok ∧ DimsJ d (commitB d b q).1 := by
  have h1 := progsH_ok (headW q b.pn (cplJ b.s)) d (b.base + 1) h (headW_lt hq (by omega) (cpl_lt _))
  have h2 := progsH_ok (pairH 6 1668246893) (progsH d (b.base + 1) (headW q b.pn (cplJ b.s))).1 (b.base + 1) h1.1 (pairH_lt (by decide))
  unfold commitB
  split
  · exact ⟨h, DimsJ.refl d⟩
  · split
    · exact ⟨h2.1, h1.2.trans h2.2⟩
    · exact h1
theorem confirmB_ok {d : Dev} (h : d.Ok) (b : BkS) : (confirmB d b).1.Ok ∧ DimsJ d (confirmB d b).1 := by
  have h1 := progsH_ok (pairH 8 1668247142) d (b.base + 1) h (pairH_lt (by decide))
  unfold confirmB
  split
  · exact ⟨h, DimsJ.refl d⟩
  · split
    · exact ⟨h, DimsJ.refl d⟩
    · exact h1
theorem tryB_ok {d : Dev} (h : d.Ok) (b : BkS) : (tryB d b).1.Ok ∧ DimsJ d (tryB d b).1 := by
  unfold tryB
  split
  · exact ⟨h, DimsJ.refl d⟩
  · split
    · exact ⟨h, DimsJ.refl d⟩
    · split
      · exact ⟨h, DimsJ.refl d⟩
      · exact ⟨progS_ok h _ _ 0 (by decide), prog_dims d _ _ 0⟩

/-- The trial's device and bank, and what is left behind its calls. -/
noncomputable def d0B : Dev := newD 4 16 9
noncomputable def b0B : BkS := newB 1 3
noncomputable def r1B : Dev × BkS × Int := beginB d0B b0B
noncomputable def r2B : Dev × BkS × Int := putB r1B.1 r1B.2.1 [1, 2]
noncomputable def r3B : Dev × BkS × Int := commitB r2B.1 r2B.2.1 7
theorem d0B_ok : d0B.Ok := newD_ok 4 16 9 (by decide) (by decide) (by decide) (by decide) (by decide)
theorem r1B_b : r1B.2.1 = ⟨1, 3, true, 0, 4294967295, 0⟩ := by kernel_rfl
theorem r1B_e : r1B.2.2 = 0 := by kernel_rfl
theorem r1B_ok : r1B.1.Ok ∧ DimsJ d0B r1B.1 := beginB_ok d0B_ok _
theorem r2B_e : r2B.2.2 = 0 := by kernel_rfl
theorem r2B_b : (r2B.2.1.base, r2B.2.1.many, r2B.2.1.pn) = (1, 3, 2) := by kernel_rfl
theorem r2B_s : decide (r2B.2.1.s < 4294967296) = true := by kernel_rfl
theorem r2B_ok : r2B.1.Ok ∧ DimsJ d0B r2B.1 := by
  have h := putB_ok r1B_ok.1 r1B.2.1 (l := [1, 2]) (by decide)
  exact ⟨h.1, r1B_ok.2.trans h.2⟩
theorem r3B_e : r3B.2.2 = 0 := by kernel_rfl
theorem r3B_b : (r3B.2.1.base, r3B.2.1.many) = (1, 3) := by kernel_rfl
theorem r3B_ok : r3B.1.Ok ∧ DimsJ d0B r3B.1 := by
  have h := commitB_ok r2B_ok.1 r2B.2.1 (q := 7) (by decide) (by have := congrArg (fun x => x.2.2) r2B_b; dsimp only at this; omega) (of_decide_eq_true r2B_s)
  exact ⟨h.1, r2B_ok.2.trans h.2⟩
theorem r3B_im : imageB r3B.1 r3B.2.1 = some [1, 2] := by kernel_rfl
theorem r3B_seq : (stateB r3B.1 r3B.2.1).seq = 7 := by kernel_rfl
end Go.Proofs.Yteanpgkonhdbpaa
