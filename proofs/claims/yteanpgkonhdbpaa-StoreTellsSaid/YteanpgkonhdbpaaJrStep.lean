/- What adding an entry does to a device's words, in plain lists. No condition. -/
import Derived.Test.YteanpgkonhdbpaaFlashBitsLaw
import Derived.Test.YteanpgkonhdbpaaJrPlain
namespace Go.Proofs.Yteanpgkonhdbpaa
open Go.RowKit

/-- A device's words, by sector. -/
def wdJ (d : Dev) : Wds := fun s q => d.bits.getD (s * d.nw + q) 0
structure DimsJ (d d' : Dev) : Prop where
  ns : d'.ns = d.ns
  nw : d'.nw = d.nw
  lim : d'.lim = d.lim
theorem DimsJ.refl (d : Dev) : DimsJ d d := ⟨rfl, rfl, rfl⟩
theorem DimsJ.trans {a b c : Dev} (h : DimsJ a b) (k : DimsJ b c) : DimsJ a c := ⟨k.ns.trans h.ns, k.nw.trans h.nw, k.lim.trans h.lim⟩
theorem wd_lt {d : Dev} (h : d.Ok) (s q : Nat) : wdJ d s q < 4294967296 := bit_lt d h _
theorem in_bits {d : Dev} (h : d.Ok) {s q : Nat} (hs : s < d.ns) (hq : q < d.nw) : s * d.nw + q < d.bits.length := by
  have := sect_hi d h s hs
  omega
theorem wd_set {d : Dev} (h : d.Ok) {s q : Nat} (x : Nat) (hs : s < d.ns) (hq : q < d.nw) {b' : List Nat} (hb : b' = d.bits.set (s * d.nw + q) x) (s' q' : Nat) (hq' : q' < d.nw) :
    b'.getD (s' * d.nw + q') 0 = if s' = s ∧ q' = q then x else wdJ d s' q' := by
  subst hb
  by_cases hc : s' = s ∧ q' = q
  · rw [if_pos hc, hc.1, hc.2]
    exact getD_set_self' _ _ _ (in_bits h hs hq)
  · rw [if_neg hc]
    refine getD_set_ne' _ _ _ _ (fun e => hc ?_)
    have h1 := flat_div (c := s') (show 1 ≤ d.nw by omega) hq'
    have h2 := flat_div (c := s) (show 1 ≤ d.nw by omega) hq
    rw [← e] at h1
    exact ⟨h1.1.symm.trans h2.1, h1.2.symm.trans h2.2⟩
theorem isS_nat {d : Dev} {s q : Nat} (hs : s < d.ns) (hq : q < d.nw) : isS d (s : Int) (q : Int) = true := by
  unfold isS
  exact decide_eq_true ⟨by omega, by omega, by omega, by omega⟩
theorem atS_nat (d : Dev) (s q : Nat) : atS d (s : Int) (q : Int) = s * d.nw + q := by unfold atS; simp
theorem goes_cases {d : Dev} (hon : d.on = true) : ((goesS d).2 = false ∧ (goesS d).1.on = true ∨ (goesS d).2 = true ∧ (goesS d).1.on = false) ∧ (goesS d).1.bits = d.bits ∧ (goesS d).1.worn = d.worn ∧ DimsJ d (goesS d).1 := by
  unfold goesS
  split
  · split
    · exact ⟨.inl ⟨rfl, hon⟩, rfl, rfl, rfl, rfl, rfl⟩
    · exact ⟨.inr ⟨rfl, rfl⟩, rfl, rfl, rfl, rfl, rfl⟩
  · exact ⟨.inl ⟨rfl, hon⟩, rfl, rfl, rfl, rfl, rfl⟩
/-- What programming a blank word does. -/
structure ProgR (d d' : Dev) (s q v : Nat) (ok : Bool) : Prop where
  ok_ : d'.Ok
  dims : DimsJ d d'
  worn : d'.worn = d.worn
  on : d'.on = ok
  wd : ∃ x, (ok = true → x = v) ∧ v ||| x = x ∧ x < 4294967296 ∧ ∀ s' q', q' < d.nw → wdJ d' s' q' = if s' = s ∧ q' = q then x else wdJ d s' q'
theorem and_ones {a : Nat} (h : a < 4294967296) : 4294967295 &&& a = a := by
  apply Nat.eq_of_testBit_eq
  intro i
  rw [Nat.testBit_and, ones_bit]
  rcases Nat.lt_or_ge i 32 with g | g
  · simp [g]
  · rw [bit_hi h g]; simp
theorem prog_r {d : Dev} (h : d.Ok) (hon : d.on = true) {s q v : Nat} (hs : s < d.ns) (hq : q < d.nw) (hb : wdJ d s q = 4294967295) (hv : v < 4294967296) :
    ∃ ok, ProgR d (progS d s q v).1 s q v ok ∧ (progS d s q v).2 = if ok = true then 0 else 63 := by
  have hok := progS_ok h (s : Int) (q : Int) v hv
  have hbit : d.bits.getD (s * d.nw + q) 0 = 4294967295 := hb
  obtain ⟨hg, g1, g2, g3⟩ := goes_cases hon
  have hmx : max d.seed 1 < 4294967296 := by have := h.seed2; omega
  have hvm : v ||| max d.seed 1 < 4294967296 := Nat.or_lt_two_pow (n := 32) hv hmx
  have e : progS d (s : Int) (q : Int) v = if (goesS d).2 then ({ (goesS d).1 with bits := d.bits.set (s * d.nw + q) (4294967295 &&& (v ||| max d.seed 1)) }, 63) else ({ (goesS d).1 with bits := d.bits.set (s * d.nw + q) v }, 0) := by
    unfold progS
    rw [if_neg (by rw [hon]; decide), if_neg (by rw [isS_nat hs hq]; decide), atS_nat]
    dsimp only
    rw [hbit, if_neg (by rw [or_ones hv]; exact fun hh => hh rfl)]
  rw [e] at hok ⊢
  rcases hg with ⟨g, ho⟩ | ⟨g, ho⟩
  · rw [g] at hok ⊢
    refine ⟨true, ⟨hok, ⟨g3.ns, g3.nw, g3.lim⟩, g2, ho, v, fun _ => rfl, Nat.or_self v, hv, fun s' q' hq' => ?_⟩, rfl⟩
    show (d.bits.set (s * d.nw + q) v).getD (s' * (goesS d).1.nw + q') 0 = _
    rw [g3.nw]
    exact wd_set h v hs hq rfl s' q' hq'
  · rw [g] at hok ⊢
    refine ⟨false, ⟨hok, ⟨g3.ns, g3.nw, g3.lim⟩, g2, ho, v ||| max d.seed 1, fun hh => (by cases hh), or_or_self' _ _, hvm, fun s' q' hq' => ?_⟩, rfl⟩
    show (d.bits.set (s * d.nw + q) (4294967295 &&& (v ||| max d.seed 1))).getD (s' * (goesS d).1.nw + q') 0 = _
    rw [g3.nw, and_ones hvm]
    exact wd_set h _ hs hq rfl s' q' hq'
/-- Words programmed one behind the other. -/
def progsJ (d : Dev) (s q : Nat) : List Nat → Dev × Int
  | [] => (d, 0)
  | v :: l => if (progS d s q v).2 ≠ 0 then progS d s q v else progsJ (progS d s q v).1 s (q + 1) l
structure ProgsR (d d' : Dev) (e : Int) (s q : Nat) (vs : List Nat) : Prop where
  ok_ : d'.Ok
  dims : DimsJ d d'
  worn : d'.worn = d.worn
  out : ∀ s' q', q' < d.nw → ¬ (s' = s ∧ q ≤ q' ∧ q' < q + vs.length) → wdJ d' s' q' = wdJ d s' q'
  res : e = 0 ∧ d'.on = true ∧ (∀ i, (hi : i < vs.length) → wdJ d' s (q + i) = vs[i]) ∨
    e = 63 ∧ d'.on = false ∧ ∃ k x, ∃ (hk : k < vs.length), (∀ i, (hi : i < k) → wdJ d' s (q + i) = vs[i]'(by omega)) ∧ vs[k] ||| x = x ∧ x < 4294967296 ∧ wdJ d' s (q + k) = x ∧ ∀ i, k < i → i < vs.length → wdJ d' s (q + i) = 4294967295
theorem progs_r : ∀ (vs : List Nat) {d : Dev} (_ : d.Ok) (_ : d.on = true) {s q : Nat} (_ : s < d.ns) (_ : q + vs.length ≤ d.nw) (_ : ∀ i, i < vs.length → wdJ d s (q + i) = 4294967295) (_ : ∀ v ∈ vs, v < 4294967296),
    ProgsR d (progsJ d s q vs).1 (progsJ d s q vs).2 s q vs
  | [], d, h, hon, s, q, _, _, _, _ => ⟨h, DimsJ.refl d, rfl, fun _ _ _ _ => rfl, .inl ⟨rfl, hon, fun i hi => absurd hi (by simp)⟩⟩
  | v :: l, d, h, hon, s, q, hs, hq, hb, hv => by
    have hb0 := hb 0 (by simp)
    rw [Nat.add_zero] at hb0
    simp only [List.length_cons] at hq hb
    obtain ⟨ok, hp, he⟩ := prog_r h hon hs (show q < d.nw by omega) hb0 (hv v (by simp))
    obtain ⟨x, x1, x2, x3, x4⟩ := hp.wd
    rw [progsJ]
    cases ok with
    | false =>
      rw [if_pos (by rw [he]; decide)]
      refine ⟨hp.ok_, hp.dims, hp.worn, fun s' q' hq' hn => ?_, .inr ⟨by rw [he]; rfl, hp.on, 0, x, by simp, fun i hi => absurd hi (by omega), x2, x3, ?_, fun i h1 h2 => ?_⟩⟩
      · rw [x4 s' q' hq', if_neg (fun hh => hn ⟨hh.1, by omega, by simp only [List.length_cons]; omega⟩)]
      · rw [Nat.add_zero, x4 s q (by omega), if_pos ⟨rfl, rfl⟩]
      · simp only [List.length_cons] at h2
        rw [x4 s (q + i) (by omega), if_neg (fun hh => by omega)]
        exact hb i h2
    | true =>
      rw [if_neg (by rw [he]; decide)]
      have x1 := x1 rfl
      subst x1
      have hd := hp.dims
      have ih := progs_r l hp.ok_ hp.on (s := s) (q := q + 1) (by rw [hd.ns]; exact hs) (by rw [hd.nw]; omega) (fun i hi => by
        rw [x4 s (q + 1 + i) (by omega), if_neg (fun hh => by omega), show q + 1 + i = q + (i + 1) by omega]
        exact hb (i + 1) (by omega)) (fun v hv' => hv v (by simp [hv']))
      have hat : wdJ (progsJ (progS d s q x).1 s (q + 1) l).1 s (q + 0) = x := by
        show wdJ _ s q = x
        rw [ih.out s q (by rw [hd.nw]; omega) (fun hh => by omega), x4 s q (by omega), if_pos ⟨rfl, rfl⟩]
      refine ⟨ih.ok_, hd.trans ih.dims, ih.worn.trans hp.worn, fun s' q' hq' hn => ?_, ?_⟩
      · simp only [List.length_cons] at hn
        rw [ih.out s' q' (by rw [hd.nw]; exact hq') (fun hh => hn ⟨hh.1, by omega, by omega⟩), x4 s' q' hq', if_neg (fun hh => hn ⟨hh.1, by omega, by omega⟩)]
      · rcases ih.res with ⟨e1, e2, e3⟩ | ⟨e1, e2, k, y, hk, e3, e4, e5, e6, e7⟩
        · refine .inl ⟨e1, e2, fun i hi => ?_⟩
          cases i with
          | zero => exact hat
          | succ i =>
            have := e3 i (by simpa using hi)
            rw [show q + 1 + i = q + (i + 1) by omega] at this
            simpa using this
        · refine .inr ⟨e1, e2, k + 1, y, by simpa using hk, fun i hi => ?_, by simpa using e4, e5, by rw [show q + (k + 1) = q + 1 + k by omega]; exact e6, fun i h1 h2 => ?_⟩
          · cases i with
            | zero => exact hat
            | succ i =>
              have := e3 i (by omega)
              rw [show q + 1 + i = q + (i + 1) by omega] at this
              simpa using this
          · cases i with
            | zero => omega
            | succ i =>
              rw [show q + (i + 1) = q + 1 + i by omega]
              exact e7 i (by omega) (by simpa using h2)
def cplJ (a : Nat) : Nat := 4294967295 - a
def fourJ (w n : Nat) : List Nat := [w, cplJ w, n, cplJ n]
/-- A place that is filled, wholly or not. -/
theorem fill_slot {d d' : Dev} {e : Int} {s a w n : Nat} (h : ProgsR d d' e s (a * 4) (fourJ w n)) (_hnw : a * 4 + 4 ≤ d.nw) (hw : w < 4294967296) (h1 : 1 ≤ n) (h2 : n ≤ 1073741824) :
    SlotOk (wdJ d') s a ∧ (e = 0 ∧ d'.on = true ∧ entJ (wdJ d') s a = some (n, w) ∨ e = 63 ∧ d'.on = false ∧ (entJ (wdJ d') s a = none ∨ entJ (wdJ d') s a = some (n, w))) := by
  have hlt : ∀ i, i < 4 → wdJ d' s (a * 4 + i) < 4294967296 := fun i _ => wd_lt h.ok_ _ _
  have hn : n < 4294967296 := by omega
  have hcw := or_cpl hw
  have hcn := or_cpl hn
  have hfull : ent4 w (cplJ w) n (cplJ n) = some (n, w) := by
    unfold ent4 twinJ cplJ
    rw [if_pos ⟨by simp, by simp, by omega, h2⟩]
  rcases h.res with ⟨e1, e2, e3⟩ | ⟨e1, e2, k, x, hk, e3, e4, e5, e6, e7⟩
  · have r0 : wdJ d' s (a * 4) = w := e3 0 (by simp [fourJ])
    have r1 : wdJ d' s (a * 4 + 1) = cplJ w := e3 1 (by simp [fourJ])
    have r2 : wdJ d' s (a * 4 + 2) = n := e3 2 (by simp [fourJ])
    have r3 : wdJ d' s (a * 4 + 3) = cplJ n := e3 3 (by simp [fourJ])
    refine ⟨⟨hlt, by rw [r0, r1]; exact hcw, by rw [r2, r3]; exact hcn⟩, .inl ⟨e1, e2, ?_⟩⟩
    unfold entJ
    rw [r0, r1, r2, r3]
    exact hfull
  · have hk4 : k < 4 := by simpa [fourJ] using hk
    have no : ∀ {p q r : Nat}, ent4 p q r 4294967295 = none := fun {p q r} => by
      unfold ent4 twinJ
      rw [if_neg (fun hh => by
        obtain ⟨_, g2, g3, g4⟩ := hh
        simp only [beq_iff_eq] at g2
        omega)]
    have hk' : k = 0 ∨ k = 1 ∨ k = 2 ∨ k = 3 := by omega
    rcases hk' with rfl | rfl | rfl | rfl
    · have r0 : wdJ d' s (a * 4) = x := e6
      have r1 := e7 1 (by decide) (by simp [fourJ])
      have r2 := e7 2 (by decide) (by simp [fourJ])
      have r3 := e7 3 (by decide) (by simp [fourJ])
      refine ⟨⟨hlt, by rw [r0, r1]; exact or_ones e5, by rw [r2, r3]; decide⟩, .inr ⟨e1, e2, .inl ?_⟩⟩
      unfold entJ
      rw [r3]
      exact no
    · have r0 : wdJ d' s (a * 4) = w := e3 0 (by decide)
      have r1 : wdJ d' s (a * 4 + 1) = x := e6
      have r2 := e7 2 (by decide) (by simp [fourJ])
      have r3 := e7 3 (by decide) (by simp [fourJ])
      refine ⟨⟨hlt, by rw [r0, r1]; exact cover_up (a := w) (b := cplJ w) hw e5 hcw (Nat.or_self w) e4, by rw [r2, r3]; decide⟩, .inr ⟨e1, e2, .inl ?_⟩⟩
      unfold entJ
      rw [r3]
      exact no
    · have r0 : wdJ d' s (a * 4) = w := e3 0 (by decide)
      have r1 : wdJ d' s (a * 4 + 1) = cplJ w := e3 1 (by decide)
      have r2 : wdJ d' s (a * 4 + 2) = x := e6
      have r3 := e7 3 (by decide) (by simp [fourJ])
      refine ⟨⟨hlt, by rw [r0, r1]; exact hcw, by rw [r2, r3]; exact or_ones e5⟩, .inr ⟨e1, e2, .inl ?_⟩⟩
      unfold entJ
      rw [r3]
      exact no
    · have r0 : wdJ d' s (a * 4) = w := e3 0 (by decide)
      have r1 : wdJ d' s (a * 4 + 1) = cplJ w := e3 1 (by decide)
      have r2 : wdJ d' s (a * 4 + 2) = n := e3 2 (by decide)
      have r3 : wdJ d' s (a * 4 + 3) = x := e6
      refine ⟨⟨hlt, by rw [r0, r1]; exact hcw, by rw [r2, r3]; exact cover_up (a := n) (b := cplJ n) hn e5 hcn (Nat.or_self n) e4⟩, .inr ⟨e1, e2, ?_⟩⟩
      unfold entJ
      rw [r0, r1, r2, r3]
      by_cases hx : x = cplJ n
      · rw [hx]; exact .inr hfull
      · refine .inl ?_
        unfold ent4 twinJ
        rw [if_neg (fun hh => by
          obtain ⟨_, g2, _, _⟩ := hh
          simp only [beq_iff_eq] at g2
          exact hx g2)]

theorem erase_r {d : Dev} (h : d.Ok) (hon : d.on = true) {s : Nat} (hs : s < d.ns) (hw : d.worn.getD s 0 < d.lim) {K : Nat} (hK : K * 4 ≤ d.nw) :
    (eraseS d s).1.Ok ∧ DimsJ d (eraseS d s).1 ∧ (∀ i, (eraseS d s).1.worn.getD i 0 ≤ d.worn.getD i 0 + 1) ∧ RiseIn (wdJ d) (wdJ (eraseS d s).1) d.ns K s ∧
      ((eraseS d s).2 = 0 ∧ (eraseS d s).1.on = true ∧ (∀ q, q < d.nw → wdJ (eraseS d s).1 s q = 4294967295) ∨ (eraseS d s).2 = 63 ∧ (eraseS d s).1.on = false) := by
  have hok := eraseS_ok h (s : Int)
  have hd : DimsJ d (eraseS d s).1 := by
    rw [eraseS_yes d s hon hs hw]
    obtain ⟨_, _, _, g⟩ := goes_cases (d := wornD d s) hon
    exact ⟨g.ns, g.nw, g.lim⟩
  have hnw : (eraseS d s).1.nw = d.nw := hd.nw
  have hwd : ∀ s' q, wdJ (eraseS d s).1 s' q = (eraseS d s).1.bits.getD (s' * d.nw + q) 0 := fun s' q => by
    show (eraseS d s).1.bits.getD (s' * (eraseS d s).1.nw + q) 0 = _
    rw [hnw]
  refine ⟨hok, hd, fun i => ?_, ⟨fun s' q h1 h2 h3 => ?_, fun q hq => ⟨?_, wd_lt hok _ _⟩⟩, ?_⟩
  · rw [eraseS_yes d s hon hs hw]
    obtain ⟨_, _, g, _⟩ := goes_cases (d := wornD d s) hon
    show (goesS (wornD d s)).1.worn.getD i 0 ≤ _
    rw [g]
    show (d.worn.set s (d.worn.getD s 0 + 1)).getD i 0 ≤ _
    by_cases hi : i = s
    · subst hi
      rcases Nat.lt_or_ge i d.worn.length with g2 | g2
      · rw [getD_set_self' _ _ _ g2]; exact Nat.le_refl _
      · rw [List.set_eq_of_length_le g2]; exact Nat.le_succ _
    · rw [getD_set_ne' _ _ _ _ (fun e => hi e.symm)]; exact Nat.le_succ _
  · rw [hwd]
    exact (erase_bits d h s s' q h1 (by omega)).2.1 (by omega)
  · rw [hwd]
    exact (erase_bits d h s s q hs (by omega)).1
  · obtain ⟨g0, g1, _, _⟩ := goes_cases (d := wornD d s) hon
    have hhi := sect_hi d h s hs
    rcases g0 with ⟨g2, g3⟩ | ⟨g2, g3⟩
    · refine .inl ⟨?_, ?_, fun q hq => ?_⟩
      · rw [eraseS_yes d s hon hs hw]
        show (if (goesS (wornD d s)).2 = true then (63 : Int) else 0) = 0
        rw [g2]; rfl
      · rw [eraseS_yes d s hon hs hw]; exact g3
      · rw [hwd, eraseS_yes d s hon hs hw]
        show (eraseBits (goesS (wornD d s)).2 _ _ _ _).getD _ 0 = _
        rw [g2, eraseBits_in _ _ _ _ _ _ hq hhi]
        rfl
    · refine .inr ⟨?_, ?_⟩
      · rw [eraseS_yes d s hon hs hw]
        show (if (goesS (wornD d s)).2 = true then (63 : Int) else 0) = 63
        rw [g2]; rfl
      · rw [eraseS_yes d s hon hs hw]; exact g3

/-- The journal's own state: where it is, how many sectors, where the next entry goes, its number. -/
structure JS where
  base : Nat
  many : Nat
  sector : Nat
  at_ : Nat
  next : Nat
def fillJ (d : Dev) (j : JS) (w : Nat) : Dev × JS × Int :=
  ((progsJ d (j.base + j.sector) (j.at_ * 4) (fourJ w j.next)).1,
    (if (progsJ d (j.base + j.sector) (j.at_ * 4) (fourJ w j.next)).2 = 0 then { j with at_ := j.at_ + 1, next := j.next + 1 } else { j with at_ := j.at_ + 1 }),
    (progsJ d (j.base + j.sector) (j.at_ * 4) (fourJ w j.next)).2)
def turnJ (j : JS) : JS := { j with sector := (j.sector + 1) % j.many, at_ := 0 }
def addJ (d : Dev) (j : JS) (w : Nat) : Dev × JS × Int :=
  if 1073741824 < j.next then (d, j, 82)
  else if d.nw / 4 ≤ j.at_ then
    if (eraseS d ((j.base + (j.sector + 1) % j.many : Nat) : Int)).2 = 0 then fillJ (eraseS d ((j.base + (j.sector + 1) % j.many : Nat) : Int)).1 (turnJ j) w
    else ((eraseS d ((j.base + (j.sector + 1) % j.many : Nat) : Int)).1, j, (eraseS d ((j.base + (j.sector + 1) % j.many : Nat) : Int)).2)
  else fillJ d j w
/-- The journal of all sectors, as it is opened. -/
def jsOf (d : Dev) : JS := ⟨0, d.ns, (openJ (wdJ d) d.ns (d.nw / 4)).2.1, (openJ (wdJ d) d.ns (d.nw / 4)).2.2, (openJ (wdJ d) d.ns (d.nw / 4)).1⟩
/-- What an addition leaves. -/
structure AddR (d : Dev) (n w : Nat) (put sure : List (Nat × Nat)) (cut : Nat) (d' : Dev) (j' : JS) (e : Int) : Prop where
  ok_ : d'.Ok
  dims : DimsJ d d'
  worn : ∀ i, d'.worn.getD i 0 ≤ d.worn.getD i 0 + 1
  next : j'.next ≤ n + 1
  base : j'.base = 0
  many : j'.many = d.ns
  res : e = 0 ∧ d'.on = true ∧ j' = jsOf d' ∧ JInv (wdJ d') d.ns (d.nw / 4) (put ++ [(n, w)]) (sure ++ [(n, w)]) cut ∨
    e ≠ 0 ∧ d'.on = false ∧ JInv (wdJ d') d.ns (d.nw / 4) (put ++ [(n, w)]) sure (cut + 1)
theorem blank_words {W : Wds} {s a : Nat} (h : blank4 W s a = true) : ∀ i, i < 4 → W s (a * 4 + i) = 4294967295 := by
  unfold blank4 at h
  simp only [Bool.and_eq_true, beq_iff_eq] at h
  obtain ⟨⟨⟨h1, h2⟩, h3⟩, h4⟩ := h
  intro i hi
  have : i = 0 ∨ i = 1 ∨ i = 2 ∨ i = 3 := by omega
  rcases this with rfl | rfl | rfl | rfl
  · exact h1
  · exact h2
  · exact h3
  · exact h4
theorem four_lt {w n : Nat} (hw : w < 4294967296) (hn : n ≤ 1073741824) : ∀ v ∈ fourJ w n, v < 4294967296 := by
  intro v hv
  simp only [fourJ, cplJ, List.mem_cons, List.not_mem_nil, or_false] at hv
  omega
theorem ProgsR.setIn {d d' : Dev} {e : Int} {s a w n m K : Nat} (h : ProgsR d d' e s (a * 4) (fourJ w n)) (hK : K * 4 ≤ d.nw) : SetIn (wdJ d) (wdJ d') m K s a := fun s' q _ h2 h3 => h.out s' q (by omega) (fun hh => h3 ⟨hh.1, hh.2.1, by have := hh.2.2; simp [fourJ] at this; omega⟩)
theorem jsOf_eq {d' : Dev} {j : JS} {n c u : Nat} (h : openJ (wdJ d') d'.ns (d'.nw / 4) = (n, c, u)) (hj : j = ⟨0, d'.ns, c, u, n⟩) : j = jsOf d' := by
  unfold jsOf
  rw [h, hj]
theorem add_on {d : Dev} (h : d.Ok) (hon : d.on = true) {put sure : List (Nat × Nat)} {cut : Nat} (hI : JInv (wdJ d) d.ns (d.nw / 4) put sure cut) {w : Nat} (hw : w < 4294967296) (hn : (jsOf d).next ≤ 1073741824) (hwear : ∀ s, s < d.ns → d.worn.getD s 0 < d.lim) :
    AddR d (jsOf d).next w put sure cut (addJ d (jsOf d) w).1 (addJ d (jsOf d) w).2.1 (addJ d (jsOf d) w).2.2 := by
  obtain ⟨n, c, u, hop⟩ : ∃ n c u, openJ (wdJ d) d.ns (d.nw / 4) = (n, c, u) := ⟨_, _, _, rfl⟩
  have hj : jsOf d = ⟨0, d.ns, c, u, n⟩ := by unfold jsOf; rw [hop]
  obtain ⟨R, hr⟩ := hI.open_ring hop
  have hn1 : 1 ≤ n := by rw [← (open_parts hop).1]; exact foldJ_pos _ _ _
  have hK : d.nw / 4 * 4 ≤ d.nw := Nat.div_mul_le_self _ _
  rw [hj] at hn ⊢
  have hn2 : n ≤ 1073741824 := hn
  have hcl := hr.c_lt
  unfold addJ
  rw [if_neg (by show ¬ 1073741824 < n; omega)]
  rcases Nat.lt_or_ge u (d.nw / 4) with hu | hu
  · rw [if_neg (by show ¬ d.nw / 4 ≤ u; omega)]
    have hb := blank_words (hr.blank u (Nat.le_refl _) hu)
    have hnw : u * 4 + 4 ≤ d.nw := by omega
    have hp := progs_r (fourJ w n) h hon (s := c) (q := u * 4) hcl (by simp [fourJ]; omega) (fun i hi => hb i (by simpa [fourJ] using hi)) (four_lt hw hn2)
    obtain ⟨ho, hres⟩ := fill_slot hp hnw hw hn1 hn2
    have hset := hp.setIn (m := d.ns) hK
    have hd := hp.dims
    unfold fillJ
    rw [Nat.zero_add]
    rcases hres with ⟨e1, e2, e3⟩ | ⟨e1, e2, e3⟩
    · obtain ⟨g1, g2⟩ := hI.place_ok hop hu hset ho e3
      rw [if_pos e1]
      refine ⟨hp.ok_, hd, fun i => by rw [hp.worn]; exact Nat.le_succ _, Nat.le_refl _, rfl, rfl, .inl ⟨e1, e2, jsOf_eq (n := n + 1) (c := c) (u := u + 1) (by rw [hd.ns, hd.nw]; exact g2) (by rw [hd.ns]), g1⟩⟩
    · rw [if_neg (by rw [e1]; decide)]
      exact ⟨hp.ok_, hd, fun i => by rw [hp.worn]; exact Nat.le_succ _, Nat.le_succ _, rfl, rfl, .inr ⟨by rw [e1]; decide, e2, hI.place_torn hop hu hset ho e3⟩⟩
  · rw [if_pos (show d.nw / 4 ≤ u from hu)]
    have hu2 : u = d.nw / 4 := Nat.le_antisymm hr.u_le hu
    subst hu2
    have hm := hI.m2
    have hc' : (c + 1) % d.ns < d.ns := Nat.mod_lt _ (by omega)
    show AddR _ _ _ _ _ _ (if (eraseS d ((0 + (c + 1) % d.ns : Nat) : Int)).2 = 0 then fillJ (eraseS d ((0 + (c + 1) % d.ns : Nat) : Int)).1 (turnJ ⟨0, d.ns, c, d.nw / 4, n⟩) w else ((eraseS d ((0 + (c + 1) % d.ns : Nat) : Int)).1, ⟨0, d.ns, c, d.nw / 4, n⟩, (eraseS d ((0 + (c + 1) % d.ns : Nat) : Int)).2)).1 (if (eraseS d ((0 + (c + 1) % d.ns : Nat) : Int)).2 = 0 then fillJ (eraseS d ((0 + (c + 1) % d.ns : Nat) : Int)).1 (turnJ ⟨0, d.ns, c, d.nw / 4, n⟩) w else ((eraseS d ((0 + (c + 1) % d.ns : Nat) : Int)).1, ⟨0, d.ns, c, d.nw / 4, n⟩, (eraseS d ((0 + (c + 1) % d.ns : Nat) : Int)).2)).2.1 (if (eraseS d ((0 + (c + 1) % d.ns : Nat) : Int)).2 = 0 then fillJ (eraseS d ((0 + (c + 1) % d.ns : Nat) : Int)).1 (turnJ ⟨0, d.ns, c, d.nw / 4, n⟩) w else ((eraseS d ((0 + (c + 1) % d.ns : Nat) : Int)).1, ⟨0, d.ns, c, d.nw / 4, n⟩, (eraseS d ((0 + (c + 1) % d.ns : Nat) : Int)).2)).2.2
    rw [Nat.zero_add]
    obtain ⟨o1, o2, o3, o4, o5⟩ := erase_r h hon hc' (hwear _ hc') hK
    generalize hr1 : eraseS d (((c + 1) % d.ns : Nat) : Int) = r at *
    obtain ⟨d1, e⟩ := r
    dsimp only at o1 o2 o3 o4 o5 ⊢
    obtain ⟨hI1, hop1⟩ := hI.turn hop o4
    rcases o5 with ⟨q1, q2, q3⟩ | ⟨q1, q2⟩
    · rw [if_pos q1]
      have hbl : ∀ a, a < d.nw / 4 → blank4 (wdJ d1) ((c + 1) % d.ns) a = true := fun a ha => by
        unfold blank4
        rw [q3 _ (by omega), q3 _ (by omega), q3 _ (by omega), q3 _ (by omega)]
        rfl
      have hp := progs_r (fourJ w n) o1 q2 (s := (c + 1) % d.ns) (q := 0 * 4) (by rw [o2.ns]; exact hc') (by rw [o2.nw]; have := hI.k1; simp [fourJ]; omega) (fun i hi => by rw [Nat.zero_mul, Nat.zero_add]; exact q3 i (by have := hI.k1; simp [fourJ] at hi; omega)) (four_lt hw hn2)
      obtain ⟨ho, hres⟩ := fill_slot hp (by rw [o2.nw]; have := hI.k1; omega) hw hn1 hn2
      have hset := hp.setIn (m := d.ns) (K := d.nw / 4) (by rw [o2.nw]; exact hK)
      have hd := o2.trans hp.dims
      unfold fillJ turnJ
      dsimp only
      rw [Nat.zero_add]
      have hws : ∀ i, (progsJ d1 ((c + 1) % d.ns) (0 * 4) (fourJ w n)).1.worn.getD i 0 ≤ d.worn.getD i 0 + 1 := fun i => by rw [hp.worn]; exact o3 i
      rcases hres with ⟨e1, e2, e3⟩ | ⟨e1, e2, e3⟩
      · obtain ⟨g1, g2⟩ := hI1.next_ok hop1 hbl hset ho e3
        rw [if_pos e1]
        exact ⟨hp.ok_, hd, hws, Nat.le_refl _, rfl, rfl, .inl ⟨e1, e2, jsOf_eq (n := n + 1) (c := (c + 1) % d.ns) (u := 1) (by rw [hd.ns, hd.nw]; exact g2) (by rw [hd.ns]), g1⟩⟩
      · rw [if_neg (by rw [e1]; decide)]
        exact ⟨hp.ok_, hd, hws, Nat.le_succ _, rfl, rfl, .inr ⟨by rw [e1]; decide, e2, hI1.next_torn hop1 hbl hset ho e3⟩⟩
    · rw [if_neg (by rw [q1]; decide)]
      exact ⟨o1, o2, o3, Nat.le_succ _, rfl, rfl, .inr ⟨by show e ≠ 0; rw [q1]; decide, q2, hI1.more (n, w) (Nat.le_succ _)⟩⟩
/-- While the power is gone, nothing is added. -/
theorem progs_off {d : Dev} (hoff : d.on = false) (s q v : Nat) (l : List Nat) : progsJ d s q (v :: l) = (d, 63) := by
  have e : progS d (s : Int) (q : Int) v = (d, 63) := by unfold progS; rw [if_pos hoff]
  rw [progsJ, e, if_pos (show (63 : Int) ≠ 0 by decide)]
theorem add_off {d : Dev} (h : d.Ok) (hoff : d.on = false) {put sure : List (Nat × Nat)} {cut : Nat} (hI : JInv (wdJ d) d.ns (d.nw / 4) put sure cut) {w : Nat} {j : JS} (hb : j.base = 0) (hm : j.many = d.ns) (hn : j.next ≤ 1073741824) :
    AddR d j.next w put sure cut (addJ d j w).1 (addJ d j w).2.1 (addJ d j w).2.2 := by
  have hr : AddR d j.next w put sure cut d j 63 := ⟨h, DimsJ.refl d, fun _ => Nat.le_succ _, Nat.le_succ _, hb, hm, .inr ⟨by show (63 : Int) ≠ 0; decide, hoff, hI.more _ (Nat.le_succ _)⟩⟩
  have ee : ∀ s : Int, eraseS d s = (d, 63) := fun s => by unfold eraseS; rw [if_pos hoff]
  unfold addJ
  rw [if_neg (by omega)]
  split
  · rw [ee, if_neg (show ¬ (63 : Int) = 0 by decide)]
    exact hr
  · unfold fillJ fourJ
    rw [progs_off hoff, if_neg (show ¬ (63 : Int) = 0 by decide)]
    exact ⟨h, DimsJ.refl d, fun _ => Nat.le_succ _, Nat.le_succ _, hb, hm, .inr ⟨by show (63 : Int) ≠ 0; decide, hoff, hI.more _ (Nat.le_succ _)⟩⟩
end Go.Proofs.Yteanpgkonhdbpaa
