/- A bank of a device of which the power stays; and what a bank's calls leave of other words; in plain lists. Condition: the device is one that may be. What a bank of a device of which the power stays holds: put, commit, confirm, try; in plain lists. Condition: the device is one that may be. -/
import Derived.Test.YteanpgkonhdbpaaBkP
import Derived.Test.YteanpgkonhdbpaaBkX
import Derived.Test.YteanpgkonhdbpaaSrC
namespace Go.Proofs.Yteanpgkonhdbpaa
open Go.RowKit

/-- The power is there, and stays. -/
structure Qt (d : Dev) : Prop where
  ok : d.Ok
  on : d.on = true
  un : d.armed = false
theorem goes_q {d : Dev} (h : d.armed = false) : goesS d = ({ d with ops := wrap64 (d.ops + 1) }, false) := by
  unfold goesS
  rw [if_neg (by rw [h]; exact Bool.false_ne_true)]
structure StepQ (d d' : Dev) : Prop where
  q : Qt d'
  dims : DimsJ d d'
theorem prog_q {d : Dev} (h : Qt d) {s q v : Nat} (hs : s < d.ns) (hq : q < d.nw) (hv : v < 4294967296) (hb : v ||| atB d (s * d.nw + q) = atB d (s * d.nw + q)) :
    ∃ d', progS d (s : Int) (q : Int) v = (d', 0) ∧ StepQ d d' ∧ d'.worn = d.worn ∧ ∀ j, atB d' j = if j = s * d.nw + q then v else atB d j := by
  have h1 := progS_ok h.ok (s : Int) (q : Int) v hv
  have h2 := prog_dims d (s : Int) (q : Int) v
  have h3 := fun j hj => prog_other d s q v j hj
  have h4 := fun e => prog_this h.ok s q v e
  have e : progS d (s : Int) (q : Int) v = ({ { d with ops := wrap64 (d.ops + 1) } with bits := d.bits.set (s * d.nw + q) v }, 0) := by
    unfold progS
    rw [if_neg (by rw [h.on]; simp), if_neg (by rw [isS_nat hs hq]; simp)]
    dsimp only
    rw [atS_nat, if_neg (fun hh => hh hb), goes_q h.un]
    rfl
  rw [e] at h1 h2 h3 h4
  refine ⟨_, e, ⟨⟨h1, h.on, h.un⟩, h2⟩, rfl, fun j => ?_⟩
  split
  · rename_i hj
    subst hj
    exact h4 rfl
  · rename_i hj
    exact h3 j hj
theorem erase_q {d : Dev} (h : Qt d) {s : Nat} (hs : s < d.ns) (hw : d.worn.getD s 0 < d.lim) :
    ∃ d', eraseS d (s : Int) = (d', 0) ∧ StepQ d d' ∧ (∀ t, d'.worn.getD t 0 = if t = s then d.worn.getD s 0 + 1 else d.worn.getD t 0) ∧ ∀ j, atB d' j = if s * d.nw ≤ j ∧ j < s * d.nw + d.nw then 4294967295 else atB d j := by
  have h1 := eraseS_ok h.ok (s : Int)
  have h2 := erase_dimsB d (s : Int)
  have h3 := fun j hj => erase_other d s j hj
  have h4 := fun k hk e => erase_this h.ok s k hk e
  have e : eraseS d (s : Int) = ({ { d with worn := d.worn.set s (d.worn.getD s 0 + 1), ops := wrap64 (d.ops + 1) } with bits := eraseBits false d.seed d.bits (s * d.nw) d.nw }, 0) := by
    unfold eraseS
    rw [if_neg (by rw [h.on]; simp), if_neg (by omega), Int.toNat_natCast, if_neg (by omega)]
    dsimp only
    rw [goes_q (d := { d with worn := d.worn.set s (d.worn.getD s 0 + 1) }) h.un]
    rfl
  rw [e] at h1 h2 h3 h4
  refine ⟨_, e, ⟨⟨h1, h.on, h.un⟩, h2⟩, fun t => ?_, fun j => ?_⟩
  · show (d.worn.set s _).getD t 0 = _
    split
    · rename_i ht
      subst ht
      exact getD_set_self' _ _ _ (by rw [h.ok.wlen]; exact hs)
    · rename_i ht
      exact getD_set_ne' _ _ _ _ (Ne.symm ht)
  · split
    · rename_i hj
      have := h4 (j - s * d.nw) (by omega) rfl
      rw [show s * d.nw + (j - s * d.nw) = j by omega] at this
      exact this
    · rename_i hj
      exact h3 j (by omega)
theorem div_in {nw s j : Nat} (h : 1 ≤ nw) : (s * nw ≤ j ∧ j < s * nw + nw) ↔ j / nw = s := by
  constructor
  · rintro ⟨h1, h2⟩
    exact Nat.div_eq_of_lt_le h1 (by rw [Nat.succ_mul]; exact h2)
  · rintro rfl
    have h1 := Nat.div_mul_le_self j nw
    have h2 := Nat.lt_div_mul_add h (a := j)
    exact ⟨h1, h2⟩
theorem erases_q : ∀ (l : List Nat) {d : Dev}, Qt d → l.Nodup → (∀ s ∈ l, s < d.ns ∧ d.worn.getD s 0 < d.lim) →
    ∃ d', erasesL d l = (d', 0) ∧ StepQ d d' ∧ (∀ t, d'.worn.getD t 0 = if t ∈ l then d.worn.getD t 0 + 1 else d.worn.getD t 0) ∧ ∀ j, atB d' j = if j / d.nw ∈ l then 4294967295 else atB d j
  | [], d, h, _, _ => ⟨d, rfl, ⟨h, DimsJ.refl d⟩, fun t => by simp, fun j => by simp⟩
  | s :: l, d, h, hn, hl => by
    obtain ⟨d1, e1, ⟨q1, m1⟩, w1, b1⟩ := erase_q h (hl s (by simp)).1 (hl s (by simp)).2
    have hs : s ∉ l := (List.nodup_cons.1 hn).1
    obtain ⟨d2, e2, ⟨q2, m2⟩, w2, b2⟩ := erases_q l q1 (List.nodup_cons.1 hn).2 (fun t ht => by
      have hne : t ≠ s := fun e => hs (e ▸ ht)
      have := hl t (by simp [ht])
      rw [m1.ns, m1.lim, w1 t, if_neg hne]
      exact this)
    refine ⟨d2, ?_, ⟨q2, m1.trans m2⟩, fun t => ?_, fun j => ?_⟩
    · unfold erasesL
      rw [e1]
      exact e2
    · rw [w2 t, w1 t]
      by_cases ht : t ∈ l
      · have hne : t ≠ s := fun e => hs (e ▸ ht)
        rw [if_pos ht, if_neg hne, if_pos (by simp [ht])]
      · rw [if_neg ht]
        by_cases hts : t = s
        · subst hts
          rw [if_pos rfl, if_pos (by simp)]
        · rw [if_neg hts, if_neg (by simp [hts, ht])]
    · rw [b2 j, b1 j, m1.nw]
      by_cases hj : j / d.nw ∈ l
      · rw [if_pos hj, if_pos (by simp [hj])]
      · rw [if_neg hj]
        by_cases hjs : j / d.nw = s
        · rw [if_pos ((div_in h.ok.nw1).2 hjs), if_pos (by simp [hjs])]
        · rw [if_neg (fun hh => hjs ((div_in h.ok.nw1).1 hh)), if_neg (by simp [hjs, hj])]
theorem mem_secOrd {base many s : Nat} (h : 1 ≤ many) : s ∈ secOrd base many ↔ base ≤ s ∧ s < base + many := by
  unfold secOrd secPre
  simp only [List.mem_append, List.mem_map, List.mem_range, List.mem_singleton]
  constructor
  · rintro (⟨i, hi, rfl⟩ | rfl) <;> omega
  · intro hh
    by_cases he : s = base
    · exact .inr he
    · exact .inl ⟨s - base - 1, by omega, by omega⟩
theorem nodup_secOrd (base many : Nat) : (secOrd base many).Nodup := by
  unfold secOrd secPre
  rw [List.nodup_append]
  refine ⟨?_, by simp, fun a ha b hb => ?_⟩
  · refine List.Pairwise.map _ (fun a b (hab : a ≠ b) => ?_) List.nodup_range
    omega
  · simp only [List.mem_map, List.mem_range] at ha
    obtain ⟨i, _, rfl⟩ := ha
    simp at hb
    omega
theorem BkOk.in_ {d : Dev} {b : BkS} (h : BkOk d b) {s : Nat} (_h1 : b.base ≤ s) (h2 : s < b.base + b.many) : s < d.ns := by
  have := h.fits
  omega
/-- Is a word one of the bank's? -/
def InB (d : Dev) (b : BkS) (j : Nat) : Prop := b.base * d.nw ≤ j ∧ j < (b.base + b.many) * d.nw
theorem inB_div {d : Dev} (h : 1 ≤ d.nw) {b : BkS} {j : Nat} : InB d b j ↔ b.base ≤ j / d.nw ∧ j / d.nw < b.base + b.many := by
  unfold InB
  rw [Nat.le_div_iff_mul_le h, Nat.div_lt_iff_lt_mul h]
theorem begin_q {d : Dev} (h : Qt d) {b : BkS} (hk : BkOk d b) (hw : ∀ s, b.base ≤ s → s < b.base + b.many → d.worn.getD s 0 < d.lim) :
    ∃ d', beginB d b = (d', { b with opn := true, pn := 0, s := 4294967295, m := 0 }, 0) ∧ StepQ d d' ∧ (∀ t, d'.worn.getD t 0 = if b.base ≤ t ∧ t < b.base + b.many then d.worn.getD t 0 + 1 else d.worn.getD t 0) ∧
      (∀ j, InB d b j → atB d' j = 4294967295) ∧ ∀ j, ¬ InB d b j → atB d' j = atB d j := by
  have h3 := hk.three
  have hnw := h.ok.nw1
  have hwo : wornB d b = false := by
    unfold wornB
    rw [List.any_eq_false]
    intro x hx
    obtain ⟨x1, x2⟩ := (mem_secOrd (by omega)).1 hx
    have h4 := hw x x1 x2
    have h5 := hk.in_ x1 x2
    intro hh
    have hh := of_decide_eq_true hh
    unfold wornS at hh
    rw [Int.toNat_natCast, if_pos (by omega)] at hh
    omega
  obtain ⟨d1, e1, ⟨q1, m1⟩, w1, b1⟩ := prog_q h (s := b.base) (q := 0) (v := 0) (hk.in_ (by omega) (by omega)) (by omega) (by decide) (Nat.zero_or _)
  obtain ⟨d2, e2, ⟨q2, m2⟩, w2, b2⟩ := erases_q (secOrd b.base b.many) q1 (nodup_secOrd _ _) (fun s hs => by
    obtain ⟨x1, x2⟩ := (mem_secOrd (by omega)).1 hs
    rw [m1.ns, m1.lim, w1]
    exact ⟨hk.in_ x1 x2, hw s x1 x2⟩)
  have e1' : progS d (b.base : Int) 0 0 = (d1, 0) := e1
  refine ⟨d2, ?_, ⟨q2, m1.trans m2⟩, fun t => ?_, fun j hj => ?_, fun j hj => ?_⟩
  · unfold beginB
    rw [if_neg (by rw [h.on]; simp), if_neg (by rw [hwo]; simp), e1']
    dsimp only
    rw [if_pos rfl, e2]
    rfl
  · rw [w2 t, w1]
    by_cases ht : t ∈ secOrd b.base b.many
    · rw [if_pos ht, if_pos ((mem_secOrd (by omega)).1 ht)]
    · rw [if_neg ht, if_neg (fun hh => ht ((mem_secOrd (by omega)).2 hh))]
  · rw [b2 j, if_pos]
    rw [m1.nw]
    exact (mem_secOrd (by omega)).2 ((inB_div hnw).1 hj)
  · rw [b2 j, if_neg, b1 j, if_neg]
    · rintro rfl
      refine hj ⟨by omega, ?_⟩
      have := Nat.mul_le_mul_right d.nw (show b.base + 1 ≤ b.base + b.many by omega)
      rw [Nat.add_mul, Nat.one_mul] at this
      omega
    · rw [m1.nw]
      intro hh
      exact hj ((inB_div hnw).2 ((mem_secOrd (by omega)).1 hh))
end Go.Proofs.Yteanpgkonhdbpaa

namespace Go.Proofs.Yteanpgkonhdbpaa
open Go.RowKit

theorem BkOk.dimsQ {d d' : Dev} {b b' : BkS} (h : BkOk d b) (k : DimsJ d d') (hb : b'.base = b.base) (hm : b'.many = b.many) : BkOk d' b' := ⟨by rw [hm]; exact h.three, by rw [hb, hm, k.ns]; exact h.fits, by rw [k.nw]; exact h.words⟩
theorem room_dims {d d' : Dev} {b b' : BkS} (k : DimsJ d d') (hm : b'.many = b.many) : roomB d' b' = roomB d b := by unfold roomB; rw [hm, k.nw]
/-- Where a bank's data words begin. -/
def datB (d : Dev) (b : BkS) : Nat := (b.base + 2) * d.nw
theorem putL_q : ∀ (l : List Nat) {d : Dev} {b : BkS}, Qt d → BkOk d b → (∀ y ∈ l, y < 4294967296) → b.pn + l.length ≤ (b.many - 2) * d.nw → (∀ j, datB d b + b.pn ≤ j → j < datB d b + b.pn + l.length → atB d j = 4294967295) →
    ∃ d', putL d b l = (d', putsB b l, 0) ∧ StepQ d d' ∧ d'.worn = d.worn ∧ (∀ j, j < l.length → atB d' (datB d b + b.pn + j) = l.getD j 0) ∧ ∀ j, (j < datB d b + b.pn ∨ datB d b + b.pn + l.length ≤ j) → atB d' j = atB d j
  | [], d, b, h, _, _, _, _ => ⟨d, rfl, ⟨h, DimsJ.refl d⟩, rfl, fun j hj => absurd hj (by simp), fun _ _ => rfl⟩
  | x :: l, d, b, h, hk, hl, hr, hb => by
    have hr' : b.pn + (l.length + 1) ≤ (b.many - 2) * d.nw := hr
    obtain ⟨p1, p2, p3⟩ := place_data h.ok hk (k := b.pn) (by omega)
    have p3' : (b.base + 2 + b.pn / d.nw) * d.nw + b.pn % d.nw = datB d b + b.pn := p3
    have hx := hl x (by simp)
    obtain ⟨d1, e1, ⟨q1, m1⟩, w1, b1⟩ := prog_q h (s := b.base + 2 + b.pn / d.nw) (q := b.pn % d.nw) (v := x) p1 p2 hx (by
      rw [p3', hb _ (by omega) (by simp)]
      exact or_ones hx)
    rw [p3'] at b1
    have hdat : datB d1 { b with pn := b.pn + 1, s := wordC b.s x, m := b.m + 4 } = datB d b := by unfold datB; rw [m1.nw]
    obtain ⟨d2, e2, ⟨q2, m2⟩, w2, b2, o2⟩ := putL_q l (b := { b with pn := b.pn + 1, s := wordC b.s x, m := b.m + 4 }) q1 (hk.dimsQ m1 rfl rfl) (fun y hy => hl y (by simp [hy])) (by rw [m1.nw]; show b.pn + 1 + l.length ≤ (b.many - 2) * d.nw; omega) (fun j h1 h2 => by
      rw [hdat] at h1 h2
      have h1' : datB d b + (b.pn + 1) ≤ j := h1
      have h2' : j < datB d b + (b.pn + 1) + l.length := h2
      rw [b1 j, if_neg (by omega)]
      exact hb j (by omega) (by simp only [List.length_cons]; omega))
    rw [hdat] at b2 o2
    have b2' : ∀ j, j < l.length → atB d2 (datB d b + (b.pn + 1) + j) = l.getD j 0 := b2
    have o2' : ∀ j, (j < datB d b + (b.pn + 1) ∨ datB d b + (b.pn + 1) + l.length ≤ j) → atB d2 j = atB d1 j := o2
    refine ⟨d2, ?_, ⟨q2, m1.trans m2⟩, w2.trans w1, fun j hj => ?_, fun j hj => ?_⟩
    · rw [putL, e1]
      dsimp only
      rw [if_pos rfl, e2]
      unfold putsB
      simp only [List.length_cons, foldC, List.foldl_cons]
      rw [show b.pn + 1 + l.length = b.pn + (l.length + 1) by omega, show b.m + 4 + l.length * 4 = b.m + (l.length + 1) * 4 by omega]
    · cases j with
      | zero =>
        rw [o2' _ (.inl (by omega)), b1, if_pos (by omega)]
        rfl
      | succ j =>
        rw [show datB d b + b.pn + (j + 1) = datB d b + (b.pn + 1) + j by omega, b2' j (by simpa using hj)]
        rfl
    · rw [List.length_cons] at hj
      rw [o2' j (by omega), b1, if_neg (by omega)]
theorem put_q {d : Dev} {b : BkS} {l : List Nat} (h : Qt d) (hk : BkOk d b) (hl : ∀ y ∈ l, y < 4294967296) (ho : b.opn = true) (hr : b.pn + l.length ≤ roomB d b) (hb : ∀ j, datB d b + b.pn ≤ j → j < datB d b + b.pn + l.length → atB d j = 4294967295) :
    ∃ d', putB d b l = (d', putsB b l, 0) ∧ StepQ d d' ∧ d'.worn = d.worn ∧ (∀ j, j < l.length → atB d' (datB d b + b.pn + j) = l.getD j 0) ∧ ∀ j, (j < datB d b + b.pn ∨ datB d b + b.pn + l.length ≤ j) → atB d' j = atB d j := by
  have hr2 : roomB d b ≤ (b.many - 2) * d.nw := Nat.min_le_left _ _
  obtain ⟨d', e, h1, h2, h3, h4⟩ := putL_q l h hk hl (by omega) hb
  refine ⟨d', ?_, h1, h2, h3, h4⟩
  unfold putB
  rw [if_neg (by rw [ho]; simp), if_neg (by omega)]
  exact e
/-- Words of one sector, each blank before. -/
theorem progsH_q (s : Nat) : ∀ (l : List (Nat × Nat)) {d : Dev}, Qt d → s < d.ns → (l.map Prod.fst).Nodup → (∀ x ∈ l, x.1 < d.nw ∧ x.2 < 4294967296 ∧ atB d (s * d.nw + x.1) = 4294967295) →
    ∃ d', progsH d s l = (d', 0) ∧ StepQ d d' ∧ d'.worn = d.worn ∧ (∀ x ∈ l, atB d' (s * d.nw + x.1) = x.2) ∧ ∀ j, (∀ x ∈ l, j ≠ s * d.nw + x.1) → atB d' j = atB d j
  | [], d, h, _, _, _ => ⟨d, rfl, ⟨h, DimsJ.refl d⟩, rfl, fun x hx => by simp at hx, fun _ _ => rfl⟩
  | x :: l, d, h, hs, hn, hl => by
    obtain ⟨x1, x2, x3⟩ := hl x (by simp)
    have hnx : x.1 ∉ l.map Prod.fst := (List.nodup_cons.1 hn).1
    obtain ⟨d1, e1, ⟨q1, m1⟩, w1, b1⟩ := prog_q h hs x1 x2 (by rw [x3]; exact or_ones x2)
    have hne : ∀ y ∈ l, s * d.nw + y.1 ≠ s * d.nw + x.1 := fun y hy e => hnx (by rw [← (show y.1 = x.1 by omega)]; exact List.mem_map_of_mem hy)
    obtain ⟨d2, e2, ⟨q2, m2⟩, w2, b2, o2⟩ := progsH_q s l q1 (by rw [m1.ns]; exact hs) (List.nodup_cons.1 hn).2 (fun y hy => by
      obtain ⟨y1, y2, y3⟩ := hl y (by simp [hy])
      rw [m1.nw, b1, if_neg (hne y hy)]
      exact ⟨y1, y2, y3⟩)
    rw [m1.nw] at b2 o2
    refine ⟨d2, ?_, ⟨q2, m1.trans m2⟩, w2.trans w1, fun y hy => ?_, fun j hj => ?_⟩
    · rw [progsH, e1]
      dsimp only
      rw [if_pos rfl]
      exact e2
    · rcases List.mem_cons.1 hy with rfl | hy
      · rw [o2 _ (fun z hz => Ne.symm (hne z hz)), b1, if_pos rfl]
      · exact b2 y hy
    · rw [o2 j (fun z hz => hj z (by simp [hz])), b1, if_neg (hj x (by simp))]
/-- What a bank holds: an image, confirmed or not, with so many trials used. -/
structure Holds (d : Dev) (b : BkS) (q : Nat) (l : List Nat) (cf : Bool) (tr : Nat) : Prop where
  blank : atB d (b.base * d.nw) = 4294967295
  h0 : atB d ((b.base + 1) * d.nw + 0) = q
  h1 : atB d ((b.base + 1) * d.nw + 1) = cplJ q
  h2 : atB d ((b.base + 1) * d.nw + 2) = l.length
  h3 : atB d ((b.base + 1) * d.nw + 3) = cplJ l.length
  h4 : atB d ((b.base + 1) * d.nw + 4) = crcL l
  h5 : atB d ((b.base + 1) * d.nw + 5) = cplJ (crcL l)
  h6 : atB d ((b.base + 1) * d.nw + 6) = 1668246893
  h7 : atB d ((b.base + 1) * d.nw + 7) = cplJ 1668246893
  h8 : atB d ((b.base + 1) * d.nw + 8) = if cf = true then 1668247142 else 4294967295
  h9 : atB d ((b.base + 1) * d.nw + 9) = if cf = true then cplJ 1668247142 else 4294967295
  tries : ∀ i, i < 3 → atB d ((b.base + 1) * d.nw + (10 + i)) = if i < tr then 0 else 4294967295
  tr3 : tr ≤ 3
  data : ∀ j, j < l.length → atB d (datB d b + j) = l.getD j 0
  long : l.length ≤ roomB d b
/-- The same words. -/
theorem Holds.same {d d' : Dev} {b b' : BkS} {q : Nat} {l : List Nat} {cf : Bool} {tr : Nat} (h : Holds d b q l cf tr) (hk : BkOk d b) (k : DimsJ d d') (hb : b'.base = b.base) (hm : b'.many = b.many) (hs : ∀ j, InB d b j → atB d' j = atB d j) : Holds d' b' q l cf tr := by
  have h3 := hk.three
  have hw := hk.words
  have a1 : b.base * d.nw + 3 * d.nw ≤ (b.base + b.many) * d.nw := by rw [← Nat.add_mul]; exact Nat.mul_le_mul_right _ (by omega)
  have a2 : (b.base + 1) * d.nw = b.base * d.nw + d.nw := by rw [Nat.add_mul, Nat.one_mul]
  have a3 : datB d b = b.base * d.nw + 2 * d.nw := by unfold datB; rw [Nat.add_mul]
  have a4 : datB d b + (b.many - 2) * d.nw = (b.base + b.many) * d.nw := by unfold datB; rw [← Nat.add_mul]; congr 1; omega
  have hh : ∀ k, k < d.nw → atB d' ((b.base + 1) * d.nw + k) = atB d ((b.base + 1) * d.nw + k) := fun k hk => hs _ ⟨by omega, by omega⟩
  have hd : datB d' b' = datB d b := by unfold datB; rw [k.nw, hb]
  have hr2 : roomB d b ≤ (b.many - 2) * d.nw := Nat.min_le_left _ _
  have hlong := h.long
  refine ⟨?_, ?_, ?_, ?_, ?_, ?_, ?_, ?_, ?_, ?_, ?_, fun i hi => ?_, h.tr3, fun j hj => ?_, ?_⟩
  · rw [hb, k.nw, hs _ ⟨by omega, by omega⟩]; exact h.blank
  · rw [hb, k.nw, hh 0 (by omega)]; exact h.h0
  · rw [hb, k.nw, hh 1 (by omega)]; exact h.h1
  · rw [hb, k.nw, hh 2 (by omega)]; exact h.h2
  · rw [hb, k.nw, hh 3 (by omega)]; exact h.h3
  · rw [hb, k.nw, hh 4 (by omega)]; exact h.h4
  · rw [hb, k.nw, hh 5 (by omega)]; exact h.h5
  · rw [hb, k.nw, hh 6 (by omega)]; exact h.h6
  · rw [hb, k.nw, hh 7 (by omega)]; exact h.h7
  · rw [hb, k.nw, hh 8 (by omega)]; exact h.h8
  · rw [hb, k.nw, hh 9 (by omega)]; exact h.h9
  · rw [hb, k.nw, hh (10 + i) (by omega)]; exact h.tries i hi
  · rw [hd, hs _ ⟨by omega, by omega⟩]; exact h.data j hj
  · rw [room_dims k hm]; exact hlong
theorem atH_at {d : Dev} (ho : d.Ok) {σ k : Nat} (hs : σ < d.ns) (hk : k < d.nw) : atH (sectL d σ) k = atB d (σ * d.nw + k) := by
  have hin := in_bits ho hs hk
  have := sectL_get d σ k hk
  unfold atH atB
  rw [List.getD_eq_getElem?_getD, this, List.getD_eq_getElem?_getD, List.getElem?_eq_getElem hin]
  rfl
theorem Holds.state {d : Dev} {b : BkS} {q : Nat} {l : List Nat} {cf : Bool} {tr : Nat} (h : Holds d b q l cf tr) (ho : d.Ok) (hk : BkOk d b) : stateB d b = ⟨q, l.length, crcL l, true, cf, tr⟩ := by
  have hs : b.base + 1 < d.ns := hk.in_ (by omega) (by have := hk.three; omega)
  have hw := hk.words
  have at_ : ∀ k, k < d.nw → atH (secB d b 1) k = atB d ((b.base + 1) * d.nw + k) := fun k hk => atH_at ho hs hk
  have a0 := (at_ 0 (by omega)).trans h.h0
  have a1 := (at_ 1 (by omega)).trans h.h1
  have a2 := (at_ 2 (by omega)).trans h.h2
  have a3 := (at_ 3 (by omega)).trans h.h3
  have a4 := (at_ 4 (by omega)).trans h.h4
  have a5 := (at_ 5 (by omega)).trans h.h5
  have a6 := (at_ 6 (by omega)).trans h.h6
  have a7 := (at_ 7 (by omega)).trans h.h7
  have a8 := (at_ 8 (by omega)).trans h.h8
  have a9 := (at_ 9 (by omega)).trans h.h9
  have t0 := (at_ 10 (by omega)).trans (h.tries 0 (by decide))
  have t1 := (at_ 11 (by omega)).trans (h.tries 1 (by decide))
  have t2 := (at_ 12 (by omega)).trans (h.tries 2 (by decide))
  have hv : validH (secB d b 1) = true := by
    unfold validH twoH
    simp only [a0, a1, a2, a3, a4, a5, a6, a7, beq_self_eq_true, Bool.and_self, Nat.zero_add]
  have hc : confH (secB d b 1) = cf := by
    unfold confH twoH
    rw [hv, a8, show 8 + 1 = 9 from rfl, a9]
    cases cf <;> decide
  have ht : trialsH (secB d b 1) 3 = tr := by
    have h3 := h.tr3
    simp only [trialsH, usedH]
    rw [show 10 + 0 = 10 from rfl, show 10 + 1 = 11 from rfl, show 10 + 2 = 12 from rfl, t0, t1, t2]
    have : tr = 0 ∨ tr = 1 ∨ tr = 2 ∨ tr = 3 := by omega
    rcases this with rfl | rfl | rfl | rfl <;> decide
  have hh : headH (secB d b 1) = ⟨q, l.length, crcL l, true, cf, tr⟩ := by
    unfold headH
    rw [hv, hc, ht, a0, a2, a4]
    rfl
  unfold stateB
  rw [hh, if_neg]
  rintro (h1 | h1)
  · unfold voidB at h1
    have := of_decide_eq_true h1
    exact this (by unfold wdJ; rw [Nat.add_zero]; exact h.blank)
  · have := h.long
    exact absurd h1 (by dsimp only; omega)
theorem Holds.image {d : Dev} {b : BkS} {q : Nat} {l : List Nat} {cf : Bool} {tr : Nat} (h : Holds d b q l cf tr) (ho : d.Ok) (hk : BkOk d b) : dataB d b l.length = l ∧ imageB d b = if d.on = true then some l else none := by
  have hr2 : roomB d b ≤ (b.many - 2) * d.nw := Nat.min_le_left _ _
  have hlong := h.long
  have hd : dataB d b l.length = l := by
    refine List.ext_getElem? fun k => ?_
    by_cases hkl : k < l.length
    · obtain ⟨p1, p2, p3⟩ := place_data ho hk (k := k) (by omega)
      have hin := in_bits ho p1 p2
      have := h.data k hkl
      unfold atB datB at this
      rw [dataB_get hkl, List.getElem?_eq_getElem hkl]
      rw [p3] at hin
      rw [List.getElem?_eq_getElem hin]
      rw [List.getD_eq_getElem?_getD, List.getElem?_eq_getElem hin, List.getD_eq_getElem?_getD, List.getElem?_eq_getElem hkl] at this
      exact congrArg some this
    · rw [List.getElem?_eq_none (by rw [dataB_len ho hk (by omega)]; omega), List.getElem?_eq_none (by omega)]
  refine ⟨hd, ?_⟩
  unfold imageB
  rw [h.state ho hk]
  dsimp only
  rw [hd]
  by_cases hon : d.on = true
  · rw [if_pos ⟨rfl, hon, rfl⟩, if_pos hon]
  · rw [if_neg (fun hh => hon hh.2.1), if_neg hon]
theorem Holds.cand {s : StS} {i q : Nat} {l : List Nat} {cf : Bool} {tr : Nat} (h : Holds s.d (s.bk i) q l cf tr) (ho : s.d.Ok) (hk : BkOk s.d (s.bk i)) : candS s i = if s.d.on = true then (if cf = false ∧ 3 ≤ tr then none else some ⟨i, q, !cf, l⟩) else none := by
  unfold candS
  rw [(h.image ho hk).2, h.state ho hk]
  by_cases hon : s.d.on = true
  · rw [if_pos hon, if_pos hon]
  · rw [if_neg hon, if_neg hon]
/-- Commit. -/
theorem commit_q {d : Dev} {b : BkS} {l : List Nat} (h : Qt d) (hk : BkOk d b) (_hl : ∀ y ∈ l, y < 4294967296) (q : Nat) (hq : q < 4294967296) (ho : b.opn = true) (hp : b.pn = l.length) (h1 : 1 ≤ l.length) (hlen : l.length ≤ roomB d b) (hs : b.s = foldC 4294967295 l)
    (hb : atB d (b.base * d.nw) = 4294967295) (hw : ∀ k, k < d.nw → atB d ((b.base + 1) * d.nw + k) = 4294967295) (hdat : ∀ j, j < l.length → atB d (datB d b + j) = l.getD j 0) :
    ∃ d', commitB d b q = (d', { b with opn := false }, 0) ∧ StepQ d d' ∧ d'.worn = d.worn ∧ Holds d' { b with opn := false } q l false 0 ∧ ∀ j, (j < (b.base + 1) * d.nw ∨ (b.base + 1) * d.nw + d.nw ≤ j) → atB d' j = atB d j := by
  have hr3 : roomB d b ≤ 4096 := Nat.min_le_right _ _
  have hs1 : b.base + 1 < d.ns := hk.in_ (by omega) (by have := hk.three; omega)
  have hnw := hk.words
  have hcs : cplJ b.s < 4294967296 := cpl_lt _
  have hcr : cplJ b.s = crcL l := by rw [hs]; rfl
  obtain ⟨d1, e1, ⟨q1, m1⟩, w1, b1, o1⟩ := progsH_q (b.base + 1) (headW q b.pn (cplJ b.s)) h hs1 (show [0, 0 + 1, 2, 2 + 1, 4, 4 + 1].Nodup by decide) (fun x hx => by
    simp [headW, pairH] at hx
    have c1 := cpl_lt q
    have c2 := cpl_lt b.pn
    have c3 := cpl_lt (cplJ b.s)
    rcases hx with rfl | rfl | rfl | rfl | rfl | rfl <;> exact ⟨by dsimp only; omega, by dsimp only; omega, hw _ (by dsimp only; omega)⟩)
  obtain ⟨d2, e2, ⟨q2, m2⟩, w2, b2, o2⟩ := progsH_q (b.base + 1) (pairH 6 1668246893) q1 (by rw [m1.ns]; exact hs1) (by decide) (fun x hx => by
    simp [pairH] at hx
    rw [m1.nw]
    rcases hx with rfl | rfl
    · exact ⟨by dsimp only; omega, by decide, by rw [o1 _ (fun y hy => by simp [headW, pairH] at hy; rcases hy with rfl | rfl | rfl | rfl | rfl | rfl <;> dsimp only <;> omega)]; exact hw _ (by dsimp only; omega)⟩
    · exact ⟨by dsimp only; omega, by decide, by rw [o1 _ (fun y hy => by simp [headW, pairH] at hy; rcases hy with rfl | rfl | rfl | rfl | rfl | rfl <;> dsimp only <;> omega)]; exact hw _ (by dsimp only; omega)⟩)
  rw [m1.nw] at b2 o2
  have oth : ∀ j, (j < (b.base + 1) * d.nw ∨ (b.base + 1) * d.nw + 8 ≤ j) → atB d2 j = atB d j := fun j hj => by
    rw [o2 j (fun y hy => by simp [pairH] at hy; rcases hy with rfl | rfl <;> dsimp only <;> omega), o1 j (fun y hy => by simp [headW, pairH] at hy; rcases hy with rfl | rfl | rfl | rfl | rfl | rfl <;> dsimp only <;> omega)]
  have lo : ∀ k, k < 6 → atB d2 ((b.base + 1) * d.nw + k) = atB d1 ((b.base + 1) * d.nw + k) := fun k hk => o2 _ (fun y hy => by simp [pairH] at hy; rcases hy with rfl | rfl <;> dsimp only <;> omega)
  have m : DimsJ d d2 := m1.trans m2
  have a2 : (b.base + 1) * d.nw = b.base * d.nw + d.nw := by rw [Nat.add_mul, Nat.one_mul]
  have a3 : datB d b = b.base * d.nw + 2 * d.nw := by unfold datB; rw [Nat.add_mul]
  have hd : datB d2 b = datB d b := by unfold datB; rw [m.nw]
  refine ⟨d2, ?_, ⟨q2, m⟩, w2.trans w1, ?_, fun j hj => oth j (by omega)⟩
  · unfold commitB
    rw [if_neg (by rw [ho]; simp; omega), e1]
    dsimp only
    rw [if_pos rfl, e2]
  · refine ⟨?_, ?_, ?_, ?_, ?_, ?_, ?_, ?_, ?_, ?_, ?_, fun i hi => ?_, by decide, fun j hj => ?_, ?_⟩
    · show atB d2 (b.base * d2.nw) = _
      rw [m.nw, oth _ (by omega)]; exact hb
    · show atB d2 ((b.base + 1) * d2.nw + 0) = _
      rw [m.nw, lo 0 (by decide)]; exact b1 (0, q) (by simp [headW, pairH])
    · show atB d2 ((b.base + 1) * d2.nw + 1) = _
      rw [m.nw, lo 1 (by decide)]; exact b1 (1, cplJ q) (by simp [headW, pairH])
    · show atB d2 ((b.base + 1) * d2.nw + 2) = _
      rw [m.nw, lo 2 (by decide), ← hp]; exact b1 (2, b.pn) (by simp [headW, pairH])
    · show atB d2 ((b.base + 1) * d2.nw + 3) = _
      rw [m.nw, lo 3 (by decide), ← hp]; exact b1 (3, cplJ b.pn) (by simp [headW, pairH])
    · show atB d2 ((b.base + 1) * d2.nw + 4) = _
      rw [m.nw, lo 4 (by decide), ← hcr]; exact b1 (4, cplJ b.s) (by simp [headW, pairH])
    · show atB d2 ((b.base + 1) * d2.nw + 5) = _
      rw [m.nw, lo 5 (by decide), ← hcr]; exact b1 (5, cplJ (cplJ b.s)) (by simp [headW, pairH])
    · show atB d2 ((b.base + 1) * d2.nw + 6) = _
      rw [m.nw]; exact b2 (6, 1668246893) (by simp [pairH])
    · show atB d2 ((b.base + 1) * d2.nw + 7) = _
      rw [m.nw]; exact b2 (7, cplJ 1668246893) (by simp [pairH])
    · show atB d2 ((b.base + 1) * d2.nw + 8) = _
      rw [m.nw, oth _ (by omega), if_neg (by decide)]; exact hw _ (by omega)
    · show atB d2 ((b.base + 1) * d2.nw + 9) = _
      rw [m.nw, oth _ (by omega), if_neg (by decide)]; exact hw _ (by omega)
    · show atB d2 ((b.base + 1) * d2.nw + (10 + i)) = _
      rw [m.nw, oth _ (by omega), if_neg (by omega)]; exact hw _ (by omega)
    · show atB d2 (datB d2 b + j) = _
      rw [hd, oth _ (by omega)]; exact hdat j hj
    · have hr5 : roomB d2 { b with opn := false } = roomB d b := room_dims m rfl
      rw [hr5]; exact hlen
/-- Confirm. -/
theorem confirm_q {d : Dev} {b : BkS} {q tr : Nat} {l : List Nat} (h : Qt d) (hk : BkOk d b) (hh : Holds d b q l false tr) :
    ∃ d', confirmB d b = (d', 0) ∧ StepQ d d' ∧ d'.worn = d.worn ∧ Holds d' b q l true tr ∧ ∀ j, (j < (b.base + 1) * d.nw ∨ (b.base + 1) * d.nw + d.nw ≤ j) → atB d' j = atB d j := by
  have hs1 : b.base + 1 < d.ns := hk.in_ (by omega) (by have := hk.three; omega)
  have hnw := hk.words
  obtain ⟨d1, e1, ⟨q1, m⟩, w1, b1, o1⟩ := progsH_q (b.base + 1) (pairH 8 1668247142) h hs1 (by decide) (fun x hx => by
    simp [pairH] at hx
    rcases hx with rfl | rfl
    · exact ⟨by dsimp only; omega, by decide, hh.h8⟩
    · exact ⟨by dsimp only; omega, by decide, hh.h9⟩)
  have oth : ∀ j, (j < (b.base + 1) * d.nw + 8 ∨ (b.base + 1) * d.nw + 10 ≤ j) → atB d1 j = atB d j := fun j hj => o1 j (fun y hy => by simp [pairH] at hy; rcases hy with rfl | rfl <;> dsimp only <;> omega)
  have a2 : (b.base + 1) * d.nw = b.base * d.nw + d.nw := by rw [Nat.add_mul, Nat.one_mul]
  have a3 : datB d b = b.base * d.nw + 2 * d.nw := by unfold datB; rw [Nat.add_mul]
  have hd : datB d1 b = datB d b := by unfold datB; rw [m.nw]
  refine ⟨d1, ?_, ⟨q1, m⟩, w1, ?_, fun j hj => oth j (by omega)⟩
  · unfold confirmB
    rw [if_neg (by rw [h.on]; simp), hh.state h.ok hk, if_neg (by simp), e1]
    rfl
  · refine ⟨?_, ?_, ?_, ?_, ?_, ?_, ?_, ?_, ?_, ?_, ?_, fun i hi => ?_, hh.tr3, fun j hj => ?_, ?_⟩
    · rw [m.nw, oth _ (by omega)]; exact hh.blank
    · rw [m.nw, oth _ (by omega)]; exact hh.h0
    · rw [m.nw, oth _ (by omega)]; exact hh.h1
    · rw [m.nw, oth _ (by omega)]; exact hh.h2
    · rw [m.nw, oth _ (by omega)]; exact hh.h3
    · rw [m.nw, oth _ (by omega)]; exact hh.h4
    · rw [m.nw, oth _ (by omega)]; exact hh.h5
    · rw [m.nw, oth _ (by omega)]; exact hh.h6
    · rw [m.nw, oth _ (by omega)]; exact hh.h7
    · rw [m.nw]; exact b1 (8, 1668247142) (by simp [pairH])
    · rw [m.nw]; exact b1 (9, cplJ 1668247142) (by simp [pairH])
    · rw [m.nw, oth _ (by omega)]; exact hh.tries i hi
    · rw [hd, oth _ (by omega)]; exact hh.data j hj
    · rw [room_dims (b := b) m rfl]; exact hh.long
/-- Try. -/
theorem try_q {d : Dev} {b : BkS} {q tr : Nat} {l : List Nat} (h : Qt d) (hk : BkOk d b) (hh : Holds d b q l false tr) (ht : tr < 3) :
    ∃ d', tryB d b = (d', 0) ∧ StepQ d d' ∧ d'.worn = d.worn ∧ Holds d' b q l false (tr + 1) ∧ ∀ j, (j < (b.base + 1) * d.nw ∨ (b.base + 1) * d.nw + d.nw ≤ j) → atB d' j = atB d j := by
  have hs1 : b.base + 1 < d.ns := hk.in_ (by omega) (by have := hk.three; omega)
  have hnw := hk.words
  obtain ⟨d1, e1, ⟨q1, m⟩, w1, o1⟩ := prog_q h (s := b.base + 1) (q := 10 + tr) (v := 0) hs1 (by omega) (by decide) (Nat.zero_or _)
  have oth : ∀ j, j ≠ (b.base + 1) * d.nw + (10 + tr) → atB d1 j = atB d j := fun j hj => by rw [o1 j, if_neg hj]
  have a2 : (b.base + 1) * d.nw = b.base * d.nw + d.nw := by rw [Nat.add_mul, Nat.one_mul]
  have a3 : datB d b = b.base * d.nw + 2 * d.nw := by unfold datB; rw [Nat.add_mul]
  have hd : datB d1 b = datB d b := by unfold datB; rw [m.nw]
  have hnx : nextT (secB d b 1) 3 0 = some (10 + tr) := by
    have at_ : ∀ k, k < d.nw → atH (secB d b 1) k = atB d ((b.base + 1) * d.nw + k) := fun k hk => atH_at h.ok hs1 hk
    have t0 := (at_ 10 (by omega)).trans (hh.tries 0 (by decide))
    have t1 := (at_ 11 (by omega)).trans (hh.tries 1 (by decide))
    have t2 := (at_ 12 (by omega)).trans (hh.tries 2 (by decide))
    have : tr = 0 ∨ tr = 1 ∨ tr = 2 := by omega
    rcases this with rfl | rfl | rfl <;> simp [nextT, t0, t1, t2]
  refine ⟨d1, ?_, ⟨q1, m⟩, w1, ?_, fun j hj => oth j (by omega)⟩
  · unfold tryB
    rw [if_neg (by rw [h.on]; simp), hh.state h.ok hk, if_neg (by simp), hnx]
    exact e1
  · refine ⟨?_, ?_, ?_, ?_, ?_, ?_, ?_, ?_, ?_, ?_, ?_, fun i hi => ?_, by omega, fun j hj => ?_, ?_⟩
    · rw [m.nw, oth _ (by omega)]; exact hh.blank
    · rw [m.nw, oth _ (by omega)]; exact hh.h0
    · rw [m.nw, oth _ (by omega)]; exact hh.h1
    · rw [m.nw, oth _ (by omega)]; exact hh.h2
    · rw [m.nw, oth _ (by omega)]; exact hh.h3
    · rw [m.nw, oth _ (by omega)]; exact hh.h4
    · rw [m.nw, oth _ (by omega)]; exact hh.h5
    · rw [m.nw, oth _ (by omega)]; exact hh.h6
    · rw [m.nw, oth _ (by omega)]; exact hh.h7
    · rw [m.nw, oth _ (by omega)]; exact hh.h8
    · rw [m.nw, oth _ (by omega)]; exact hh.h9
    · rw [m.nw, o1]
      by_cases hit : i = tr
      · subst hit
        rw [if_pos rfl, if_pos (by omega)]
      · rw [if_neg (by omega), hh.tries i hi]
        by_cases hlt : i < tr
        · rw [if_pos hlt, if_pos (by omega)]
        · rw [if_neg hlt, if_neg (by omega)]
    · rw [hd, oth _ (by omega)]; exact hh.data j hj
    · rw [room_dims (b := b) m rfl]; exact hh.long
end Go.Proofs.Yteanpgkonhdbpaa
