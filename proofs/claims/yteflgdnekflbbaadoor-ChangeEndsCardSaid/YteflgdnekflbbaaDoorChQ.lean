/- Changes of modes, plain: timers, the engine as the program keeps it, the document's, and that they tell the same; no program in sight. Changes of modes, plain: which tasks are open and active; that a change comes to its end; no program in sight. -/
import Derived.Test.YteflgdnekflbbaaDoorImgP
namespace Go.Proofs.YteflgdnekflbbaaDoor

/-! Timers: numbers, and in how many ticks they are due. -/
def addR : List (Nat × Nat) → Nat → Nat → List (Nat × Nat)
  | [], i, t => [(i, t)]
  | p :: l, i, t => if p.2 ≤ t then p :: addR l i t else (i, t) :: p :: l
def lessT (l : List (Nat × Nat)) : List (Nat × Nat) := l.map (fun q => (q.1, q.2 - 1))
def popR : List (Nat × Nat) → List Nat × List (Nat × Nat)
  | [] => ([], [])
  | p :: l => if p.2 = 1 then (p.1 :: (popR l).1, (popR l).2) else ([], lessT (p :: l))
def SortT (l : List (Nat × Nat)) : Prop := l.Pairwise (fun p q => p.2 ≤ q.2)
theorem addR_mem {l : List (Nat × Nat)} {i t : Nat} {p : Nat × Nat} : p ∈ addR l i t ↔ p = (i, t) ∨ p ∈ l := by
  induction l with
  | nil => simp [addR]
  | cons a l ih =>
    rw [addR]
    split
    · rw [List.mem_cons, ih, List.mem_cons]
      constructor
      · rintro (h | h | h)
        · exact .inr (.inl h)
        · exact .inl h
        · exact .inr (.inr h)
      · rintro (h | h | h)
        · exact .inr (.inl h)
        · exact .inl h
        · exact .inr (.inr h)
    · rw [List.mem_cons]
theorem addR_sort {l : List (Nat × Nat)} (h : SortT l) (i t : Nat) : SortT (addR l i t) := by
  induction l with
  | nil => exact List.pairwise_singleton _ _
  | cons a l ih =>
    obtain ⟨h1, h2⟩ := List.pairwise_cons.1 h
    rw [addR]
    split
    · rename_i hle
      refine List.pairwise_cons.2 ⟨fun q hq => ?_, ih h2⟩
      rcases addR_mem.1 hq with rfl | hq
      · exact hle
      · exact h1 q hq
    · rename_i hgt
      refine List.pairwise_cons.2 ⟨fun q hq => ?_, h⟩
      rcases List.mem_cons.1 hq with rfl | hq
      · show t ≤ _; omega
      · have := h1 q hq; show t ≤ _; omega
theorem addR_last {l : List (Nat × Nat)} {i t : Nat} (h : ∀ p ∈ l, p.2 ≤ t) : addR l i t = l ++ [(i, t)] := by
  induction l with
  | nil => rfl
  | cons a l ih =>
    rw [addR, if_pos (h a (by simp)), ih (fun p hp => h p (by simp [hp]))]
    rfl
theorem addR_len (l : List (Nat × Nat)) (i t : Nat) : (addR l i t).length = l.length + 1 := by
  induction l with
  | nil => rfl
  | cons a l ih =>
    rw [addR]
    split
    · rw [List.length_cons, ih]; rfl
    · rfl
theorem addR_ids {l : List (Nat × Nat)} {i t j : Nat} : j ∈ (addR l i t).map Prod.fst ↔ j = i ∨ j ∈ l.map Prod.fst := by
  simp only [List.mem_map, addR_mem]
  constructor
  · rintro ⟨p, rfl | hp, rfl⟩
    · exact .inl rfl
    · exact .inr ⟨p, hp, rfl⟩
  · rintro (rfl | ⟨p, hp, rfl⟩)
    · exact ⟨_, .inl rfl, rfl⟩
    · exact ⟨p, .inr hp, rfl⟩
theorem addR_nodup {l : List (Nat × Nat)} {i t : Nat} (h : (l.map Prod.fst).Nodup) (hi : i ∉ l.map Prod.fst) : ((addR l i t).map Prod.fst).Nodup := by
  induction l with
  | nil => simp [addR]
  | cons a l ih =>
    rw [List.map_cons, List.nodup_cons] at h
    simp only [List.map_cons, List.mem_cons, not_or] at hi
    rw [addR]
    split
    · rw [List.map_cons, List.nodup_cons]
      refine ⟨fun hm => ?_, ih h.2 hi.2⟩
      rcases addR_ids.1 hm with hm | hm
      · exact hi.1 hm.symm
      · exact h.1 hm
    · rw [List.map_cons, List.map_cons, List.nodup_cons, List.nodup_cons]
      refine ⟨?_, h⟩
      simp only [List.mem_cons, not_or]
      exact hi
/-- A tick, of a sorted row: what is due, and what is left. -/
theorem popR_sort {l : List (Nat × Nat)} (h : SortT l) (h0 : ∀ p ∈ l, 0 < p.2) : popR l = ((l.filter (fun p => p.2 = 1)).map Prod.fst, lessT (l.filter (fun p => ¬ p.2 = 1))) := by
  induction l with
  | nil => rfl
  | cons a l ih =>
    obtain ⟨h1, h2⟩ := List.pairwise_cons.1 h
    rw [popR]
    split
    · rename_i ha
      rw [ih h2 (fun p hp => h0 p (by simp [hp]))]
      rw [List.filter_cons_of_pos (by simpa using ha), List.filter_cons_of_neg (by simpa using ha)]
      rfl
    · rename_i ha
      have hb := h0 a (by simp)
      have e : ∀ p ∈ a :: l, ¬ p.2 = 1 := fun p hp => by
        rcases List.mem_cons.1 hp with rfl | hp
        · exact ha
        · have := h1 p hp; omega
      rw [List.filter_eq_nil_iff.2 (fun p hp => by simpa using e p hp), List.filter_eq_self.2 (fun p hp => by simpa using e p hp)]
      rfl

/-! The engine, as the program keeps it. -/
structure ChX where
  x : Img
  lat : List Nat
  stl : List Nat
structure EnS where
  mode : Nat
  edge : Option Nat
  ph : Nat
  since : Nat
  now : Nat
  held : Option Nat
  opn : Nat
  tm : List (Nat × Nat)
/-- What happened: 1 began, 2 came, 3 over. -/
structure Nw where
  kind : Nat
  edge : Nat
  mode : Nat
  ticks : Nat
def edg (x : Img) (k : Nat) : Edg := (x.edges[k]?).getD ⟨0, 0, 0, [], []⟩
def eTo (x : Img) (k : Nat) : Nat := (edg x k).to.toNat
def eFr (x : Img) (k : Nat) : Nat := (edg x k).frm.toNat
def ePr (x : Img) (k : Nat) : Nat := (edg x k).prot.toNat
def eOff (x : Img) (k i : Nat) : Int := (edg x k).offs.getD i 0
def newN (x : Img) (k : Nat) : Nat := minusN (setOf10 x (edg x k).to) (setOf10 x (edg x k).frm)
def sameN (x : Img) (k : Nat) : Nat := setOf10 x (edg x k).frm &&& setOf10 x (edg x k).to
def ChX.la (X : ChX) (k : Nat) : Nat := X.lat.getD k 0
def ChX.st (X : ChX) (k : Nat) : Nat := X.stl.getD k 0

def addE (s : EnS) (i t : Nat) : EnS := { s with tm := addR s.tm i t }
def shiftStep (x : Img) (k : Nat) (s : EnS) (i : Nat) : EnS := if eOff x k i < 1 then { s with opn := s.opn ||| bitN (i : Int) } else addE s i (eOff x k i).toNat
def shiftE (x : Img) (k : Nat) (s : EnS) : EnS := (bitsL (newN x k)).foldl (shiftStep x k) s
def over0 (s : EnS) : EnS × List Nw := ({ s with ph := 0, edge := none, opn := 0 }, [⟨3, s.edge.getD 0, s.mode, 0⟩])
def comeW (X : ChX) (ov : EnS → EnS × List Nw) (s : EnS) : EnS × List Nw :=
  let k := s.edge.getD 0
  let s1 : EnS := { s with mode := eTo X.x k, ph := 4 }
  if 0 < X.st k then (addE s1 17 (X.st k), [⟨2, k, eTo X.x k, s.now - s.since⟩]) else ((ov s1).1, ⟨2, k, eTo X.x k, s.now - s.since⟩ :: (ov s1).2)
def come0 (X : ChX) : EnS → EnS × List Nw := comeW X over0
def waitE (cm : EnS → EnS × List Nw) (s : EnS) (n : Nat) : EnS × List Nw := if n < 1 then cm s else (addE s 16 n, [])
def beginE (X : ChX) (s : EnS) (k : Nat) (live : Bool) : EnS × List Nw :=
  let s1 : EnS := { s with edge := some k, since := s.now, opn := 0 }
  let n : Nw := ⟨1, k, eTo X.x k, 0⟩
  if ePr X.x k = 1 then (if live = true then ({ s1 with ph := 1 }, [n]) else ((come0 X { s1 with ph := 1 }).1, n :: (come0 X { s1 with ph := 1 }).2))
  else if ePr X.x k = 2 then ((waitE (come0 X) { s1 with ph := 2 } (X.la k)).1, n :: (waitE (come0 X) { s1 with ph := 2 } (X.la k)).2)
  else ((waitE (come0 X) (shiftE X.x k { s1 with ph := 3 }) (X.la k)).1, n :: (waitE (come0 X) (shiftE X.x k { s1 with ph := 3 }) (X.la k)).2)
def over1 (X : ChX) (live : Bool) (s : EnS) : EnS × List Nw :=
  match s.held with
  | none => over0 s
  | some h =>
    match edgeAt X.x.edges (s.mode : Int) (h : Int) with
    | none => ({ (over0 s).1 with held := none }, (over0 s).2)
    | some i => ((beginE X { (over0 s).1 with held := none } i live).1, (over0 s).2 ++ (beginE X { (over0 s).1 with held := none } i live).2)
def come1 (X : ChX) (live : Bool) : EnS → EnS × List Nw := comeW X (over1 X live)
def tgt (X : ChX) (m : Nat) (e : Option Nat) : Nat := match e with | none => m | some k => eTo X.x k
def targetE (X : ChX) (s : EnS) : Nat := tgt X s.mode s.edge
def askE (X : ChX) (s : EnS) (m : Int) (live : Bool) : EnS × List Nw × Int :=
  if m < 0 ∨ (X.x.modes.length : Int) ≤ m then (s, [], 101)
  else if s.held.isSome = true then (s, [], 300)
  else match edgeAt X.x.edges (targetE X s : Int) m with
    | none => (s, [], 301)
    | some i => if s.ph ≠ 0 then ({ s with held := some m.toNat }, [], 0) else ((beginE X s i live).1, (beginE X s i live).2, 0)
def tickStep (X : ChX) (live : Bool) (p : EnS × List Nw) (id : Nat) : EnS × List Nw :=
  if id = 16 then ((come1 X live p.1).1, p.2 ++ (come1 X live p.1).2)
  else if id = 17 then ((over1 X live p.1).1, p.2 ++ (over1 X live p.1).2)
  else ({ p.1 with opn := p.1.opn ||| bitN (id : Int) }, p.2)
def tickE (X : ChX) (s : EnS) (live : Bool) : EnS × List Nw :=
  let p := (popR s.tm).1.foldl (tickStep X live) ({ s with now := s.now + 1, tm := (popR s.tm).2 }, [])
  if p.1.ph = 1 ∧ live = false then ((come1 X live p.1).1, p.2 ++ (come1 X live p.1).2) else p
def openE (X : ChX) (s : EnS) : Nat := if s.ph = 2 then 0 else if s.ph = 3 then sameN X.x (s.edge.getD 0) ||| s.opn else setOf10 X.x (s.mode : Int)
def activeE (X : ChX) (s : EnS) : Nat := if s.ph = 3 then (minusN (setOf10 X.x (edg X.x (s.edge.getD 0)).frm) (setOf10 X.x (edg X.x (s.edge.getD 0)).to) ||| newN X.x (s.edge.getD 0)) ||| sameN X.x (s.edge.getD 0) else setOf10 X.x (s.mode : Int)

/-! The document's. -/
structure DcS where
  mode : Nat
  edge : Option Nat
  ph : Nat
  now : Nat
  since : Nat
  due : Nat
  held : Option Nat
def overD0 (d : DcS) : DcS × List Nw := ({ d with ph := 0, edge := none }, [⟨3, d.edge.getD 0, d.mode, 0⟩])
def comeDW (X : ChX) (ov : DcS → DcS × List Nw) (d : DcS) : DcS × List Nw :=
  let k := d.edge.getD 0
  let d1 : DcS := { d with mode := eTo X.x k, ph := 4, due := d.now + X.st k }
  if 0 < X.st k then (d1, [⟨2, k, eTo X.x k, d.now - d.since⟩]) else ((ov d1).1, ⟨2, k, eTo X.x k, d.now - d.since⟩ :: (ov d1).2)
def comeD0 (X : ChX) : DcS → DcS × List Nw := comeDW X overD0
def beginD (X : ChX) (d : DcS) (k : Nat) (live : Bool) : DcS × List Nw :=
  let d1 : DcS := { d with edge := some k, since := d.now, ph := ePr X.x k, due := d.now + X.la k }
  let n : Nw := ⟨1, k, eTo X.x k, 0⟩
  if (ePr X.x k = 1 ∧ live = false) ∨ (ePr X.x k ≠ 1 ∧ X.la k = 0) then ((comeD0 X d1).1, n :: (comeD0 X d1).2) else (d1, [n])
def overD1 (X : ChX) (live : Bool) (d : DcS) : DcS × List Nw :=
  match d.held with
  | none => overD0 d
  | some h =>
    match edgeAt X.x.edges (d.mode : Int) (h : Int) with
    | none => ({ (overD0 d).1 with held := none }, (overD0 d).2)
    | some i => ((beginD X { (overD0 d).1 with held := none } i live).1, (overD0 d).2 ++ (beginD X { (overD0 d).1 with held := none } i live).2)
def comeD1 (X : ChX) (live : Bool) : DcS → DcS × List Nw := comeDW X (overD1 X live)
def askD (X : ChX) (d : DcS) (m : Int) (live : Bool) : DcS × List Nw × Int :=
  if m < 0 ∨ (X.x.modes.length : Int) ≤ m then (d, [], 101)
  else if d.held.isSome = true then (d, [], 300)
  else match edgeAt X.x.edges (tgt X d.mode d.edge : Int) m with
    | none => (d, [], 301)
    | some i => if d.ph ≠ 0 then ({ d with held := some m.toNat }, [], 0) else ((beginD X d i live).1, (beginD X d i live).2, 0)
def tickD (X : ChX) (d : DcS) (live : Bool) : DcS × List Nw :=
  let d0 : DcS := { d with now := d.now + 1 }
  if d0.ph = 4 ∧ d0.now = d0.due then overD1 X live d0
  else if (d0.ph = 1 ∧ live = false) ∨ ((d0.ph = 2 ∨ d0.ph = 3) ∧ d0.now = d0.due) then comeD1 X live d0
  else (d0, [])
def openD (X : ChX) (d : DcS) : Nat :=
  if d.ph = 2 then 0 else if d.ph = 3 then
    ((List.range 16).filter (fun (i : Nat) => has10 (setOf10 X.x (eTo X.x (d.edge.getD 0) : Int)) (i : Int) && (has10 (setOf10 X.x (d.mode : Int)) (i : Int) || decide (eOff X.x (d.edge.getD 0) i ≤ ((d.now - d.since : Nat) : Int))))).foldl (fun (o i : Nat) => o + 2 ^ i) 0
  else setOf10 X.x (d.mode : Int)
def activeD (X : ChX) (d : DcS) : Nat := if d.ph = 3 then setOf10 X.x (d.mode : Int) ||| setOf10 X.x (eTo X.x (d.edge.getD 0) : Int) else setOf10 X.x (d.mode : Int)

/-! Both tell the same. -/
theorem bitN_bitC {i : Nat} (h : i < 32) (s j : Nat) : (s ||| bitN (i : Int)).testBit j = (s.testBit j || decide (i = j)) := by
  unfold bitN
  rw [if_pos (by omega), Nat.testBit_or, Int.toNat_natCast, Nat.testBit_two_pow]
theorem edgeAt_is {es : List Edg} {f t : Int} {k : Nat} (h : edgeAt es f t = some k) : ∃ hk : k < es.length, es[k].frm = f ∧ es[k].to = t := by
  unfold edgeAt at h
  suffices H : ∀ (l : List Edg) (n j : Nat), firstBad (edgeIs f t) n l = some j → n ≤ j ∧ ∃ hj : j - n < l.length, l[j - n].frm = f ∧ l[j - n].to = t by
    obtain ⟨_, hk, h1⟩ := H es 0 k h
    exact ⟨hk, h1⟩
  intro l
  induction l with
  | nil => intro n j hj; simp [firstBad] at hj
  | cons a l ih =>
    intro n j hj
    rw [firstBad] at hj
    split at hj
    · obtain ⟨h1, h2, h3⟩ := ih (n + 1) j hj
      refine ⟨by omega, ?_⟩
      have e : j - n = (j - (n + 1)) + 1 := by omega
      refine ⟨by rw [e, List.length_cons]; omega, ?_⟩
      simp only [e, List.getElem_cons_succ]
      exact h3
    · rename_i hc
      cases hj
      refine ⟨Nat.le_refl _, by rw [Nat.sub_self, List.length_cons]; omega, ?_⟩
      simp only [Nat.sub_self, List.getElem_cons_zero]
      unfold edgeIs at hc
      simpa using hc
/-- What is known of an image that is admitted, and its spans. -/
structure ChG (X : ChX) : Prop where
  ok : X.x.Ok
  pr : ∀ k, k < X.x.edges.length → 1 ≤ ePr X.x k ∧ ePr X.x k ≤ 3
  ft : ∀ k, k < X.x.edges.length → (0 ≤ (edg X.x k).frm ∧ (edg X.x k).frm < X.x.modes.length) ∧ (0 ≤ (edg X.x k).to ∧ (edg X.x k).to < X.x.modes.length)
  la : ∀ k, X.la k ≤ 65536
  st : ∀ k, X.st k ≤ 65536
  n16 : ∀ k i, i ∈ bitsL (newN X.x k) → i < 16
  s16 : ∀ m : Int, setOf10 X.x m < 65536
  off : ∀ k, k < X.x.edges.length → ePr X.x k = 3 → ∀ i ∈ bitsL (newN X.x k), eOff X.x k i ≤ X.la k
theorem edg_at {x : Img} {k : Nat} (hk : k < x.edges.length) : edg x k = x.edges[k] := by
  unfold edg
  rw [List.getElem?_eq_getElem hk]
  rfl
/-- While tasks come from their offsets on. -/
structure Shf (X : ChX) (k el : Nat) (L : List (Nat × Nat)) (opn : Nat) : Prop where
  sort : SortT L
  pos : ∀ p ∈ L, 0 < p.2 ∧ p.2 ≤ X.la k - el
  mem : ∀ i r, (i, r) ∈ L ↔ i ∈ bitsL (newN X.x k) ∧ (el : Int) < eOff X.x k i ∧ eOff X.x k i = el + r
  nodup : (L.map Prod.fst).Nodup
  opn : ∀ i, opn.testBit i = true ↔ i ∈ bitsL (newN X.x k) ∧ eOff X.x k i ≤ el
/-- The timers, by phase. -/
def TmRel (X : ChX) (s : EnS) (due : Nat) : Prop :=
  match s.edge with
  | none => s.ph = 0 ∧ s.held = none ∧ s.tm = []
  | some k => k < X.x.edges.length ∧
    ((s.ph = 1 ∧ ePr X.x k = 1 ∧ s.mode = eFr X.x k ∧ s.tm = []) ∨
     (s.ph = 2 ∧ ePr X.x k = 2 ∧ s.mode = eFr X.x k ∧ s.now < due ∧ due = s.since + X.la k ∧ s.tm = [(16, due - s.now)]) ∨
     (s.ph = 3 ∧ ePr X.x k = 3 ∧ s.mode = eFr X.x k ∧ s.since ≤ s.now ∧ s.now < due ∧ due = s.since + X.la k ∧ ∃ L, s.tm = L ++ [(16, due - s.now)] ∧ Shf X k (s.now - s.since) L s.opn) ∨
     (s.ph = 4 ∧ s.mode = eTo X.x k ∧ s.now < due ∧ due ≤ s.now + X.st k ∧ s.tm = [(17, due - s.now)]))
structure RelE (X : ChX) (s : EnS) (d : DcS) : Prop where
  mode : s.mode = d.mode
  now : s.now = d.now
  held : s.held = d.held
  edge : s.edge = d.edge
  ph : s.ph = d.ph
  since : s.since = d.since
  past : s.since ≤ s.now
  len : s.mode < X.x.modes.length
  tm : TmRel X s d.due
/-- Both, between what they do. -/
structure Core (X : ChX) (s : EnS) (d : DcS) : Prop where
  mode : s.mode = d.mode
  now : s.now = d.now
  held : s.held = d.held
  edge : s.edge = d.edge
  since : s.since = d.since
  past : s.since ≤ s.now
  len : s.mode < X.x.modes.length
  tm : s.tm = []
structure Out (X : ChX) (live : Bool) (r : EnS × List Nw) (q : DcS × List Nw) : Prop where
  rel : RelE X r.1 q.1
  news : r.2 = q.2
  wait : r.1.ph = 1 → live = true
theorem over0_out {X : ChX} {live : Bool} {s : EnS} {d : DcS} (h : Core X s d) (hh : s.held = none) : Out X live (over0 s) (overD0 d) :=
  ⟨⟨h.mode, h.now, h.held, rfl, rfl, h.since, h.past, h.len, ⟨rfl, hh, h.tm⟩⟩, by unfold over0 overD0; rw [h.edge, h.mode], fun e => by cases e⟩
theorem ft_len {X : ChX} (g : ChG X) {k : Nat} (hk : k < X.x.edges.length) : eTo X.x k < X.x.modes.length := by
  have := (g.ft k hk).2
  unfold eTo
  omega
theorem comeW_out {X : ChX} (g : ChG X) {live : Bool} {ov : EnS → EnS × List Nw} {ovD : DcS → DcS × List Nw} {s : EnS} {d : DcS} {k : Nat} (hk : k < X.x.edges.length) (h : Core X s d) (he : s.edge = some k)
    (ho : ∀ s' d', Core X s' d' → s'.edge = some k → s'.held = s.held → Out X live (ov s') (ovD d')) : Out X live (comeW X ov s) (comeDW X ovD d) := by
  obtain ⟨m, e, p, si, nw, hd, op, tm⟩ := s
  obtain ⟨m', e', p', nw', si', du', hd'⟩ := d
  obtain ⟨rfl, rfl, rfl, rfl, rfl, hps, hl, ht⟩ := h
  dsimp only at he ho hps hl ht
  subst he ht
  unfold comeW comeDW
  dsimp only [Option.getD_some]
  split
  · rename_i hp
    refine ⟨⟨rfl, rfl, rfl, rfl, rfl, rfl, hps, ft_len g hk, ?_⟩, rfl, fun e => by cases e⟩
    show k < _ ∧ _
    refine ⟨hk, .inr (.inr (.inr ⟨rfl, rfl, ?_, Nat.le_refl _, ?_⟩))⟩
    · show nw < nw + X.st k
      omega
    · show [(17, X.st k)] = [(17, nw + X.st k - nw)]
      congr 2
      omega
  · have := ho ⟨eTo X.x k, some k, 4, si, nw, hd, op, []⟩ ⟨eTo X.x k, some k, 4, nw, si, nw + X.st k, hd⟩ ⟨rfl, rfl, rfl, rfl, rfl, hps, ft_len g hk, rfl⟩ rfl rfl
    refine ⟨this.rel, ?_, this.wait⟩
    show _ :: _ = _ :: _
    rw [this.news]
theorem come0_out {X : ChX} (g : ChG X) {live : Bool} {s : EnS} {d : DcS} {k : Nat} (hk : k < X.x.edges.length) (h : Core X s d) (he : s.edge = some k) (hh : s.held = none) : Out X live (come0 X s) (comeD0 X d) :=
  comeW_out g hk h he (fun s' d' h' _ hh' => over0_out h' (by rw [hh', hh]))
theorem shift_fold {X : ChX} {k : Nat} (hn : ∀ i, i ∈ bitsL (newN X.x k) → i < 16) : ∀ (is : List Nat) (s : EnS) (ds : List Nat), (∀ i ∈ is, i ∈ bitsL (newN X.x k)) → (ds ++ is).Nodup →
    SortT s.tm → (∀ p ∈ s.tm, 0 < p.2) → (∀ i r, (i, r) ∈ s.tm ↔ i ∈ ds ∧ 0 < eOff X.x k i ∧ eOff X.x k i = (r : Int)) → (s.tm.map Prod.fst).Nodup → (∀ i, s.opn.testBit i = true ↔ i ∈ ds ∧ eOff X.x k i ≤ 0) →
    (let t := is.foldl (shiftStep X.x k) s
     SortT t.tm ∧ (∀ p ∈ t.tm, 0 < p.2) ∧ (∀ i r, (i, r) ∈ t.tm ↔ i ∈ ds ++ is ∧ 0 < eOff X.x k i ∧ eOff X.x k i = (r : Int)) ∧ (t.tm.map Prod.fst).Nodup ∧ (∀ i, t.opn.testBit i = true ↔ i ∈ ds ++ is ∧ eOff X.x k i ≤ 0) ∧
     t = { s with opn := t.opn, tm := t.tm } ∧ t.tm.length ≤ s.tm.length + is.length)
  | [], s, ds, _, _, h1, h2, h3, h4, h5 => by simp only [List.foldl_nil, List.append_nil]; exact ⟨h1, h2, h3, h4, h5, trivial, by simp⟩
  | i :: is, s, ds, hm, hd, h1, h2, h3, h4, h5 => by
    rw [List.foldl_cons]
    have hi16 := hn i (hm i (by simp))
    have hnd : i ∉ ds := fun hx => by
      rw [List.nodup_append] at hd
      exact hd.2.2 i hx i (by simp) rfl
    have e1 : ds ++ i :: is = (ds ++ [i]) ++ is := by simp
    have key : ∀ s2 : EnS, s2 = shiftStep X.x k s i → SortT s2.tm ∧ (∀ p ∈ s2.tm, 0 < p.2) ∧ (∀ j r, (j, r) ∈ s2.tm ↔ j ∈ ds ++ [i] ∧ 0 < eOff X.x k j ∧ eOff X.x k j = (r : Int)) ∧ (s2.tm.map Prod.fst).Nodup ∧ (∀ j, s2.opn.testBit j = true ↔ j ∈ ds ++ [i] ∧ eOff X.x k j ≤ 0) ∧ s2 = { s with opn := s2.opn, tm := s2.tm } ∧ s2.tm.length ≤ s.tm.length + 1 := by
      intro s2 hs2
      unfold shiftStep at hs2
      split at hs2
      · rename_i hlt
        subst hs2
        refine ⟨h1, h2, fun j r => ?_, h4, fun j => ?_, rfl, by simp⟩
        · rw [h3 j r]
          constructor
          · rintro ⟨a, b, c⟩; exact ⟨by simp [a], b, c⟩
          · rintro ⟨a, b, c⟩
            rcases List.mem_append.1 a with a | a
            · exact ⟨a, b, c⟩
            · simp at a; subst a; omega
        · show (s.opn ||| bitN (i : Int)).testBit j = true ↔ _
          rw [bitN_bitC (by omega), Bool.or_eq_true, h5 j, decide_eq_true_eq]
          constructor
          · rintro (⟨a, b⟩ | rfl)
            · exact ⟨by simp [a], b⟩
            · exact ⟨by simp, by omega⟩
          · rintro ⟨a, b⟩
            rcases List.mem_append.1 a with a | a
            · exact .inl ⟨a, b⟩
            · simp at a; exact .inr a.symm
      · rename_i hge
        subst hs2
        unfold addE
        refine ⟨addR_sort h1 _ _, fun p hp => ?_, fun j r => ?_, addR_nodup h4 (fun hx => ?_), fun j => ?_, rfl, by show (addR _ _ _).length ≤ _; rw [addR_len]; exact Nat.le_refl _⟩
        · rcases addR_mem.1 hp with rfl | hp
          · show 0 < (eOff X.x k i).toNat; omega
          · exact h2 p hp
        · show (j, r) ∈ addR s.tm i (eOff X.x k i).toNat ↔ _
          rw [addR_mem, h3 j r]
          constructor
          · rintro (a | ⟨a, b, c⟩)
            · cases a
              exact ⟨by simp, by omega, by omega⟩
            · exact ⟨by simp [a], b, c⟩
          · rintro ⟨a, b, c⟩
            rcases List.mem_append.1 a with a | a
            · exact .inr ⟨a, b, c⟩
            · simp at a; subst a
              exact .inl (by rw [c]; simp)
        · obtain ⟨p, hp, he⟩ := List.mem_map.1 hx
          obtain ⟨a, b⟩ := p
          have := (h3 a b).1 hp
          have he' : a = i := he
          rw [he'] at this
          exact hnd this.1
        · show s.opn.testBit j = true ↔ _
          rw [h5 j]
          constructor
          · rintro ⟨a, b⟩; exact ⟨by simp [a], b⟩
          · rintro ⟨a, b⟩
            rcases List.mem_append.1 a with a | a
            · exact ⟨a, b⟩
            · simp at a; subst a; omega
    obtain ⟨k1, k2, k3, k4, k5, k6, k7⟩ := key _ rfl
    have ih := shift_fold hn is (shiftStep X.x k s i) (ds ++ [i]) (fun j hj => hm j (by simp [hj])) (by rw [← e1]; exact hd) k1 k2 k3 k4 k5
    rw [← e1] at ih
    obtain ⟨i1, i2, i3, i4, i5, i6, i7⟩ := ih
    refine ⟨i1, i2, i3, i4, i5, ?_, by rw [List.length_cons]; omega⟩
    rw [i6, k6]
theorem nodup_leC : ∀ (m : Nat) (l : List Nat), l.Nodup → (∀ a ∈ l, a < m) → l.length ≤ m
  | 0, l, _, h => by
    cases l with
    | nil => simp
    | cons a l => exact absurd (h a (by simp)) (Nat.not_lt_zero _)
  | m + 1, l, hd, h => by
    have h1 := nodup_leC m (l.erase m) (hd.erase m) (fun a ha => by
      have h2 := List.mem_of_mem_erase ha
      have h3 := h a h2
      have h4 : a ≠ m := fun e => by subst e; exact (List.Nodup.not_mem_erase hd) ha
      omega)
    have h5 : l.length ≤ (l.erase m).length + 1 := by
      rw [List.length_erase]
      split <;> omega
    omega
theorem bitsL_nodup2 (s : Nat) : (bitsL s).Nodup := List.nodup_range.filter _
/-- What is new comes from its offset on: right behind the beginning. -/
theorem shift_out {X : ChX} (g : ChG X) {k : Nat} (hk : k < X.x.edges.length) (h3 : ePr X.x k = 3) (s : EnS) (ht : s.tm = []) (ho : s.opn = 0) :
    Shf X k 0 (shiftE X.x k s).tm (shiftE X.x k s).opn ∧ shiftE X.x k s = { s with opn := (shiftE X.x k s).opn, tm := (shiftE X.x k s).tm } ∧ (shiftE X.x k s).tm.length ≤ 16 := by
  have hn := fun i => g.n16 k i
  obtain ⟨a, b, c, d, e, f, h⟩ := shift_fold hn (bitsL (newN X.x k)) s [] (fun i hi => hi) (by rw [List.nil_append]; exact bitsL_nodup2 _) (by rw [ht]; exact List.Pairwise.nil) (by rw [ht]; simp) (by rw [ht]; simp) (by rw [ht]; simp) (by rw [ho]; simp)
  rw [List.nil_append] at c e
  refine ⟨⟨a, fun p hp => ?_, fun i r => ?_, d, e⟩, f, ?_⟩
  · obtain ⟨i, r⟩ := p
    obtain ⟨q1, q2, q3⟩ := (c i r).1 hp
    have := g.off k hk h3 i q1
    have hb := b _ hp
    exact ⟨hb, by show r ≤ _; omega⟩
  · rw [show shiftE X.x k s = (bitsL (newN X.x k)).foldl (shiftStep X.x k) s from rfl, c i r]
    constructor
    · rintro ⟨q1, q2, q3⟩; exact ⟨q1, q2, by omega⟩
    · rintro ⟨q1, q2, q3⟩; exact ⟨q1, q2, by omega⟩
  · have := nodup_leC 16 _ d (fun i hi => by
      obtain ⟨p, hp, rfl⟩ := List.mem_map.1 hi
      obtain ⟨i, r⟩ := p
      exact hn i ((c i r).1 hp).1)
    rw [List.length_map] at this
    exact this
theorem beginE_out {X : ChX} (g : ChG X) {live : Bool} {s : EnS} {d : DcS} {k : Nat} (hk : k < X.x.edges.length) (h : Core X s d) (hh : s.held = none) (hf : s.mode = eFr X.x k) : Out X live (beginE X s k live) (beginD X d k live) := by
  obtain ⟨m, e, p, si, nw, hd, op, tm⟩ := s
  obtain ⟨m', e', p', nw', si', du', hd'⟩ := d
  obtain ⟨rfl, rfl, rfl, rfl, rfl, hps, hl, ht⟩ := h
  dsimp only at hh hf hps hl ht
  subst hh ht
  have hp := g.pr k hk
  unfold beginE beginD
  dsimp only
  by_cases h1 : ePr X.x k = 1
  · rw [if_pos h1]
    cases live
    · rw [if_neg (by simp), if_pos (.inl ⟨h1, rfl⟩)]
      have := come0_out (live := false) g hk (s := ⟨m, some k, 1, nw, nw, none, 0, []⟩) (d := ⟨m, some k, ePr X.x k, nw, nw, nw + X.la k, none⟩) ⟨rfl, rfl, rfl, rfl, rfl, Nat.le_refl _, hl, rfl⟩ rfl rfl
      exact ⟨this.rel, by show _ :: _ = _ :: _; rw [this.news], this.wait⟩
    · rw [if_pos rfl, if_neg (by rintro (⟨_, h⟩ | ⟨h, _⟩); cases h; exact h h1)]
      refine ⟨⟨rfl, rfl, rfl, rfl, h1.symm, rfl, Nat.le_refl _, hl, ?_⟩, rfl, fun _ => rfl⟩
      exact ⟨hk, .inl ⟨rfl, h1, hf, rfl⟩⟩
  · rw [if_neg h1]
    by_cases h2 : ePr X.x k = 2
    · rw [if_pos h2]
      by_cases hz : X.la k = 0
      · rw [if_pos (.inr ⟨h1, hz⟩)]
        have := come0_out (live := live) g hk (s := ⟨m, some k, 2, nw, nw, none, 0, []⟩) (d := ⟨m, some k, ePr X.x k, nw, nw, nw + X.la k, none⟩) ⟨rfl, rfl, rfl, rfl, rfl, Nat.le_refl _, hl, rfl⟩ rfl rfl
        unfold waitE
        rw [if_pos (by omega)]
        exact ⟨this.rel, by show _ :: _ = _ :: _; rw [this.news], this.wait⟩
      · rw [if_neg (by rintro (⟨h, _⟩ | ⟨_, h⟩); exact h1 h; exact hz h)]
        unfold waitE
        rw [if_neg (by omega)]
        refine ⟨⟨rfl, rfl, rfl, rfl, h2.symm, rfl, Nat.le_refl _, hl, ?_⟩, rfl, fun e => (by cases e)⟩
        refine ⟨hk, .inr (.inl ⟨rfl, h2, hf, ?_, rfl, ?_⟩)⟩
        · show nw < nw + X.la k; omega
        · show [(16, X.la k)] = [(16, nw + X.la k - nw)]
          congr 2; omega
    · rw [if_neg h2]
      have h3 : ePr X.x k = 3 := by omega
      obtain ⟨q1, q2, q3⟩ := shift_out g hk h3 ⟨m, some k, 3, nw, nw, none, 0, []⟩ rfl rfl
      generalize shiftE X.x k ⟨m, some k, 3, nw, nw, none, 0, []⟩ = t at *
      by_cases hz : X.la k = 0
      · rw [if_pos (.inr ⟨h1, hz⟩)]
        have htm : t.tm = [] := by
          cases hq : t.tm with
          | nil => rfl
          | cons a l =>
            have := q1.pos a (by rw [hq]; simp)
            omega
        have := come0_out (live := live) g hk (s := t) (d := ⟨m, some k, ePr X.x k, nw, nw, nw + X.la k, none⟩) (by rw [q2]; exact ⟨rfl, rfl, rfl, rfl, rfl, Nat.le_refl _, hl, htm⟩) (by rw [q2]) (by rw [q2])
        unfold waitE
        rw [if_pos (by omega)]
        exact ⟨this.rel, by show _ :: _ = _ :: _; rw [this.news], this.wait⟩
      · rw [if_neg (by rintro (⟨h, _⟩ | ⟨_, h⟩); exact h1 h; exact hz h)]
        unfold waitE
        rw [if_neg (by omega)]
        unfold addE
        have ha : addR t.tm 16 (X.la k) = t.tm ++ [(16, X.la k)] := addR_last (fun p hp => by have := (q1.pos p hp).2; omega)
        refine ⟨⟨by rw [q2], by rw [q2], by rw [q2], by rw [q2], by rw [q2]; exact h3.symm, by rw [q2], by rw [q2]; exact Nat.le_refl _, by rw [q2]; exact hl, ?_⟩, rfl, fun e => ?_⟩
        · rw [q2]
          refine ⟨hk, .inr (.inr (.inl ⟨rfl, h3, hf, Nat.le_refl _, ?_, rfl, t.tm, ?_, ?_⟩))⟩
          · show nw < nw + X.la k; omega
          · show addR t.tm 16 (X.la k) = t.tm ++ [(16, nw + X.la k - nw)]
            rw [ha]; congr 3; omega
          · show Shf X k (nw - nw) t.tm t.opn
            rw [Nat.sub_self]
            exact q1
        · rw [q2] at e
          cases e
theorem over1_out {X : ChX} (g : ChG X) {live : Bool} {s : EnS} {d : DcS} (h : Core X s d) : Out X live (over1 X live s) (overD1 X live d) := by
  obtain ⟨m, e, p, si, nw, hd, op, tm⟩ := s
  obtain ⟨m', e', p', nw', si', du', hd'⟩ := d
  obtain ⟨rfl, rfl, rfl, rfl, rfl, hps, hl, ht⟩ := h
  dsimp only at hps hl ht
  subst ht
  unfold over1 overD1
  dsimp only
  cases hd with
  | none => exact over0_out ⟨rfl, rfl, rfl, rfl, rfl, hps, hl, rfl⟩ rfl
  | some a =>
    dsimp only
    cases hed : edgeAt X.x.edges (m : Int) (a : Int) with
    | none => exact ⟨⟨rfl, rfl, rfl, rfl, rfl, rfl, hps, hl, ⟨rfl, rfl, rfl⟩⟩, rfl, fun e => (by cases e)⟩
    | some i =>
      obtain ⟨hi, hf, _⟩ := edgeAt_is hed
      have := beginE_out (live := live) g hi (s := ⟨m, none, 0, si, nw, none, 0, []⟩) (d := ⟨m, none, 0, nw, si, du', none⟩) ⟨rfl, rfl, rfl, rfl, rfl, hps, hl, rfl⟩ rfl (by show m = eFr X.x i; unfold eFr; rw [edg_at hi, hf]; rfl)
      exact ⟨this.rel, congrArg (fun z => (⟨3, e.getD 0, m, 0⟩ : Nw) :: z) this.news, this.wait⟩
theorem come1_out {X : ChX} (g : ChG X) {live : Bool} {s : EnS} {d : DcS} {k : Nat} (hk : k < X.x.edges.length) (h : Core X s d) (he : s.edge = some k) : Out X live (come1 X live s) (comeD1 X live d) :=
  comeW_out g hk h he (fun _ _ h' _ _ => over1_out g h')
theorem askE_out {X : ChX} (g : ChG X) {live : Bool} {s : EnS} {d : DcS} (h : RelE X s d) (m : Int) : RelE X (askE X s m live).1 (askD X d m live).1 ∧ (askE X s m live).2 = (askD X d m live).2 := by
  have hT := h.tm
  obtain ⟨a, e, p, si, nw, hd, op, tm⟩ := s
  obtain ⟨m', e', p', nw', si', du', hd'⟩ := d
  obtain ⟨rfl, rfl, rfl, rfl, rfl, rfl, hps, hl, _⟩ := h
  dsimp only at hps hl hT
  unfold askE askD targetE
  dsimp only
  split
  · exact ⟨⟨rfl, rfl, rfl, rfl, rfl, rfl, hps, hl, hT⟩, rfl⟩
  · rename_i hm
    split
    · exact ⟨⟨rfl, rfl, rfl, rfl, rfl, rfl, hps, hl, hT⟩, rfl⟩
    · rename_i hhd
      have hh : hd = none := by cases hd <;> simp_all
      subst hh
      cases hed : edgeAt X.x.edges (tgt X a e : Int) m with
      | none => exact ⟨⟨rfl, rfl, rfl, rfl, rfl, rfl, hps, hl, hT⟩, rfl⟩
      | some i =>
        dsimp only
        split
        · rename_i hp
          refine ⟨⟨rfl, rfl, rfl, rfl, rfl, rfl, hps, hl, ?_⟩, rfl⟩
          unfold TmRel at hT ⊢
          dsimp only at hT ⊢
          cases e with
          | none => exact absurd hT.1 hp
          | some k => exact hT
        · rename_i hp
          have hp0 : p = 0 := by simpa using hp
          subst hp0
          unfold TmRel at hT
          dsimp only at hT
          cases e with
          | some k => obtain ⟨_, ⟨h, _⟩ | ⟨h, _⟩ | ⟨h, _⟩ | ⟨h, _⟩⟩ := hT <;> cases h
          | none =>
            unfold tgt at hed
            dsimp only at hed
            obtain ⟨hi, hf, _⟩ := edgeAt_is hed
            have ht : tm = [] := hT.2.2
            have := beginE_out (live := live) g hi (s := ⟨a, none, 0, si, nw, none, op, tm⟩) (d := ⟨a, none, 0, nw, si, du', none⟩) ⟨rfl, rfl, rfl, rfl, rfl, hps, hl, ht⟩ rfl (by show a = eFr X.x i; unfold eFr; rw [edg_at hi, hf]; rfl)
            exact ⟨this.rel, by rw [this.news]⟩
theorem foldO {X : ChX} {live : Bool} : ∀ (is : List Nat) (s : EnS) (o : List Nw), (∀ i ∈ is, i < 16) → is.foldl (tickStep X live) (s, o) = ({ s with opn := is.foldl (fun n i => n ||| bitN ((i : Nat) : Int)) s.opn }, o)
  | [], _, _, _ => rfl
  | i :: is, s, o, h => by
    have hi := h i (by simp)
    rw [List.foldl_cons, List.foldl_cons]
    have e : tickStep X live (s, o) i = ({ s with opn := s.opn ||| bitN (i : Int) }, o) := by
      unfold tickStep
      rw [if_neg (by omega), if_neg (by omega)]
    rw [e, foldO is _ o (fun j hj => h j (by simp [hj]))]
theorem foldB : ∀ (is : List Nat) (n j : Nat), (∀ i ∈ is, i < 16) → ((is.foldl (fun n i => n ||| bitN ((i : Nat) : Int)) n).testBit j = true ↔ n.testBit j = true ∨ j ∈ is)
  | [], n, j, _ => by simp
  | i :: is, n, j, h => by
    rw [List.foldl_cons, foldB is _ j (fun a ha => h a (by simp [ha])), bitN_bitC (by have := h i (by simp); omega), Bool.or_eq_true, decide_eq_true_eq, List.mem_cons]
    constructor
    · rintro ((h1 | h1) | h1)
      · exact .inl h1
      · exact .inr (.inl h1.symm)
      · exact .inr (.inr h1)
    · rintro (h1 | h1 | h1)
      · exact .inl (.inl h1)
      · exact .inl (.inr h1.symm)
      · exact .inr h1
theorem SortT.less {l : List (Nat × Nat)} (h : SortT l) : SortT (lessT l) := by
  unfold SortT lessT
  rw [List.pairwise_map]
  exact h.imp (fun h => by show _ - 1 ≤ _ - 1; omega)
theorem less_mem {l : List (Nat × Nat)} (h0 : ∀ p ∈ l, 1 < p.2) (i r : Nat) : (i, r) ∈ lessT l ↔ 0 < r ∧ (i, r + 1) ∈ l := by
  unfold lessT
  rw [List.mem_map]
  constructor
  · rintro ⟨⟨a, b⟩, hp, he⟩
    have h1 : a = i := congrArg Prod.fst he
    have h2 : b - 1 = r := congrArg Prod.snd he
    have := h0 _ hp
    dsimp only at this
    exact ⟨by omega, by rw [← h1, show r + 1 = b by omega]; exact hp⟩
  · rintro ⟨h1, h2⟩
    exact ⟨_, h2, by simp⟩
theorem tickE_out {X : ChX} (g : ChG X) {live : Bool} {s : EnS} {d : DcS} (h : RelE X s d) : RelE X (tickE X s live).1 (tickD X d live).1 ∧ (tickE X s live).2 = (tickD X d live).2 := by
  have hT := h.tm
  obtain ⟨a, e, p, si, nw, hd, op, tm⟩ := s
  obtain ⟨m', e', p', nw', si', du', hd'⟩ := d
  obtain ⟨rfl, rfl, rfl, rfl, rfl, rfl, hps, hl, _⟩ := h
  unfold TmRel at hT
  dsimp only at hps hl hT
  cases e with
  | none =>
    obtain ⟨rfl, rfl, rfl⟩ := hT
    exact ⟨⟨rfl, rfl, rfl, rfl, rfl, rfl, (Nat.le_succ_of_le hps), hl, ⟨rfl, rfl, rfl⟩⟩, rfl⟩
  | some k =>
    obtain ⟨hk, hT⟩ := hT
    have fin : ∀ (r : EnS × List Nw) (q : DcS × List Nw), Out X live r q → tickE X ⟨a, some k, p, si, nw, hd, op, tm⟩ live = (if r.1.ph = 1 ∧ live = false then ((come1 X live r.1).1, r.2 ++ (come1 X live r.1).2) else r) → tickD X ⟨a, some k, p, nw, si, du', hd⟩ live = q →
        RelE X (tickE X ⟨a, some k, p, si, nw, hd, op, tm⟩ live).1 (tickD X ⟨a, some k, p, nw, si, du', hd⟩ live).1 ∧ (tickE X ⟨a, some k, p, si, nw, hd, op, tm⟩ live).2 = (tickD X ⟨a, some k, p, nw, si, du', hd⟩ live).2 := by
      intro r q ho e1 e2
      rw [e1, e2, if_neg (by rintro ⟨h1, h2⟩; have := ho.wait h1; rw [h2] at this; cases this)]
      exact ⟨ho.rel, ho.news⟩
    rcases hT with ⟨rfl, hp, hm, rfl⟩ | ⟨rfl, hp, hm, hlt, hdu, rfl⟩ | ⟨rfl, hp, hm, hle, hlt, hdu, L, rfl, hS⟩ | ⟨rfl, hm, hlt, hdu, rfl⟩
    · cases live
      · have := come1_out (live := false) g hk (s := ⟨a, some k, 1, si, nw + 1, hd, op, []⟩) (d := ⟨a, some k, 1, nw + 1, si, du', hd⟩) ⟨rfl, rfl, rfl, rfl, rfl, (Nat.le_succ_of_le hps), hl, rfl⟩ rfl
        exact ⟨this.rel, by have h2 := this.news; exact h2⟩
      · exact ⟨⟨rfl, rfl, rfl, rfl, rfl, rfl, (Nat.le_succ_of_le hps), hl, ⟨hk, .inl ⟨rfl, hp, hm, rfl⟩⟩⟩, rfl⟩
    · by_cases h1 : du' - nw = 1
      · have := come1_out (live := live) g hk (s := ⟨a, some k, 2, si, nw + 1, hd, op, []⟩) (d := ⟨a, some k, 2, nw + 1, si, du', hd⟩) ⟨rfl, rfl, rfl, rfl, rfl, (Nat.le_succ_of_le hps), hl, rfl⟩ rfl
        refine fin _ _ this ?_ ?_
        · unfold tickE
          rw [show (popR [(16, du' - nw)]) = ([16], []) by rw [h1]; rfl]
          rfl
        · unfold tickD
          dsimp only
          rw [if_neg (by rintro ⟨h, _⟩; cases h), if_pos (.inr ⟨.inl rfl, by omega⟩)]
      · have e1 : tickE X ⟨a, some k, 2, si, nw, hd, op, [(16, du' - nw)]⟩ live = (⟨a, some k, 2, si, nw + 1, hd, op, [(16, du' - nw - 1)]⟩, []) := by
          unfold tickE
          rw [show popR [(16, du' - nw)] = ([], [(16, du' - nw - 1)]) by rw [popR, if_neg h1]; rfl]
          rfl
        have e2 : tickD X ⟨a, some k, 2, nw, si, du', hd⟩ live = (⟨a, some k, 2, nw + 1, si, du', hd⟩, []) := by
          unfold tickD
          dsimp only
          rw [if_neg (by rintro ⟨h, _⟩; cases h), if_neg (by rintro (⟨h, _⟩ | ⟨_, h⟩); cases h; omega)]
        rw [e1, e2]
        exact ⟨⟨rfl, rfl, rfl, rfl, rfl, rfl, (Nat.le_succ_of_le hps), hl, ⟨hk, .inr (.inl ⟨rfl, hp, hm, by show nw + 1 < du'; omega, hdu, by show [(16, du' - nw - 1)] = [(16, du' - (nw + 1))]; rw [Nat.sub_sub]⟩)⟩⟩, rfl⟩
    · have hn := fun i => g.n16 k i
      have hids : ∀ p ∈ L, p.1 < 16 := fun p hp => by obtain ⟨i, r⟩ := p; exact hn i ((hS.mem i r).1 hp).1
      have hsort : SortT (L ++ [(16, du' - nw)]) := by
        rw [SortT, List.pairwise_append]
        refine ⟨hS.sort, List.pairwise_singleton _ _, fun p hp q hq => ?_⟩
        simp at hq
        subst hq
        have := (hS.pos p hp).2
        show p.2 ≤ du' - nw
        omega
      have hpos : ∀ p ∈ L ++ [(16, du' - nw)], 0 < p.2 := fun p hp => by
        rcases List.mem_append.1 hp with hp | hp
        · exact (hS.pos p hp).1
        · simp at hp; subst hp; show 0 < du' - nw; omega
      have hpop := popR_sort hsort hpos
      by_cases h1 : du' - nw = 1
      · have hall : ∀ p ∈ L ++ [(16, du' - nw)], p.2 = 1 := fun p hp => by
          rcases List.mem_append.1 hp with hp | hp
          · have := hS.pos p hp; omega
          · simp at hp; subst hp; exact h1
        rw [List.filter_eq_self.2 (fun p hp => by simpa using hall p hp), List.filter_eq_nil_iff.2 (fun p hp => by simpa using hall p hp), List.map_append] at hpop
        have := come1_out (live := live) g hk (s := ⟨a, some k, 3, si, nw + 1, hd, (L.map Prod.fst).foldl (fun n i => n ||| bitN ((i : Nat) : Int)) op, []⟩) (d := ⟨a, some k, 3, nw + 1, si, du', hd⟩) ⟨rfl, rfl, rfl, rfl, rfl, (Nat.le_succ_of_le hps), hl, rfl⟩ rfl
        refine fin _ _ this ?_ ?_
        · unfold tickE
          dsimp only
          rw [hpop]
          dsimp only
          rw [List.foldl_append, foldO (L.map Prod.fst) _ _ (fun i hi => by obtain ⟨p, hp, rfl⟩ := List.mem_map.1 hi; exact hids p hp)]
          rfl
        · unfold tickD
          dsimp only
          rw [if_neg (by rintro ⟨h, _⟩; cases h), if_pos (.inr ⟨.inr rfl, by omega⟩)]
      · have hne : ¬ (16, du' - nw).2 = 1 := h1
        rw [List.filter_append, List.filter_append, List.filter_cons_of_neg (by simpa using h1), List.filter_nil, List.append_nil, List.filter_cons_of_pos (by simpa using h1), List.filter_nil] at hpop
        obtain ⟨op', hop⟩ : ∃ o, ((L.filter (fun p => decide (p.2 = 1))).map Prod.fst).foldl (fun n i => n ||| bitN ((i : Nat) : Int)) op = o := ⟨_, rfl⟩
        have e1 : tickE X ⟨a, some k, 3, si, nw, hd, op, L ++ [(16, du' - nw)]⟩ live = (⟨a, some k, 3, si, nw + 1, hd, op', lessT (L.filter (fun p => decide (¬ p.2 = 1)) ++ [(16, du' - nw)])⟩, []) := by
          unfold tickE
          dsimp only
          rw [hpop]
          dsimp only
          rw [foldO _ _ _ (fun i hi => by obtain ⟨p, hp, rfl⟩ := List.mem_map.1 hi; exact hids p (List.mem_filter.1 hp).1), hop]
          rfl
        have e2 : tickD X ⟨a, some k, 3, nw, si, du', hd⟩ live = (⟨a, some k, 3, nw + 1, si, du', hd⟩, []) := by
          unfold tickD
          dsimp only
          rw [if_neg (by rintro ⟨h, _⟩; cases h), if_neg (by rintro (⟨h, _⟩ | ⟨_, h⟩); cases h; omega)]
        rw [e1, e2]
        refine ⟨⟨rfl, rfl, rfl, rfl, rfl, rfl, (Nat.le_succ_of_le hps), hl, ⟨hk, .inr (.inr (.inl ⟨rfl, hp, hm, by show si ≤ nw + 1; omega, by show nw + 1 < du'; omega, hdu, lessT (L.filter (fun p => decide (¬ p.2 = 1))), ?_, ?_⟩))⟩⟩, rfl⟩
        · show lessT _ = lessT _ ++ [(16, du' - (nw + 1))]
          unfold lessT
          rw [List.map_append]
          congr 1
        · show Shf X k (nw + 1 - si) _ op'
          have hF : ∀ p ∈ L.filter (fun p => decide (¬ p.2 = 1)), p ∈ L ∧ 1 < p.2 := fun p hp => by
            obtain ⟨h2, h3⟩ := List.mem_filter.1 hp
            have h3' : ¬ p.2 = 1 := by simpa using h3
            have := (hS.pos p h2).1
            exact ⟨h2, by omega⟩
          have hFi : ∀ i r, (i, r) ∈ L.filter (fun p => decide (¬ p.2 = 1)) ↔ (i, r) ∈ L ∧ ¬ r = 1 := fun i r => by rw [List.mem_filter]; simp
          have ee : nw + 1 - si = nw - si + 1 := by omega
          rw [ee]
          generalize nw - si = el at *
          refine ⟨SortT.less (hS.sort.filter _), fun p hp => ?_, fun i r => ?_, ?_, fun i => ?_⟩
          · obtain ⟨i, r⟩ := p
            obtain ⟨h2, h3⟩ := (less_mem (fun p hp => (hF p hp).2) i r).1 hp
            have := (hS.pos _ (hF _ h3).1).2
            dsimp only at this
            exact ⟨h2, by show r ≤ _; omega⟩
          · rw [less_mem (fun p hp => (hF p hp).2), hFi, hS.mem]
            constructor
            · rintro ⟨h2, ⟨h3, h4, h5⟩, h6⟩; exact ⟨h3, by omega, by omega⟩
            · rintro ⟨h3, h4, h5⟩; exact ⟨by omega, ⟨h3, by omega, by omega⟩, by omega⟩
          · unfold lessT
            rw [List.map_map]
            exact hS.nodup.sublist (List.Sublist.map Prod.fst List.filter_sublist)
          · rw [← hop, foldB _ _ _ (fun i hi => by obtain ⟨p, hp, rfl⟩ := List.mem_map.1 hi; exact hids p (List.mem_filter.1 hp).1), hS.opn i]
            constructor
            · rintro (⟨h2, h3⟩ | h2)
              · exact ⟨h2, by omega⟩
              · obtain ⟨⟨b, r⟩, hp, rfl⟩ := List.mem_map.1 h2
                obtain ⟨h3, h4⟩ := List.mem_filter.1 hp
                obtain ⟨h5, h6, h7⟩ := (hS.mem b r).1 h3
                have : r = 1 := by simpa using h4
                exact ⟨h5, by show eOff X.x k b ≤ _; omega⟩
            · rintro ⟨h2, h3⟩
              by_cases h4 : eOff X.x k i ≤ el
              · exact .inl ⟨h2, h4⟩
              · exact .inr (List.mem_map.2 ⟨(i, 1), List.mem_filter.2 ⟨(hS.mem i 1).2 ⟨h2, by omega, by omega⟩, by simp⟩, rfl⟩)
    · by_cases h1 : du' - nw = 1
      · have := over1_out (live := live) g (s := ⟨a, some k, 4, si, nw + 1, hd, op, []⟩) (d := ⟨a, some k, 4, nw + 1, si, du', hd⟩) ⟨rfl, rfl, rfl, rfl, rfl, (Nat.le_succ_of_le hps), hl, rfl⟩
        refine fin _ _ this ?_ ?_
        · unfold tickE
          rw [show (popR [(17, du' - nw)]) = ([17], []) by rw [h1]; rfl]
          rfl
        · unfold tickD
          dsimp only
          rw [if_pos ⟨rfl, by omega⟩]
      · have e1 : tickE X ⟨a, some k, 4, si, nw, hd, op, [(17, du' - nw)]⟩ live = (⟨a, some k, 4, si, nw + 1, hd, op, [(17, du' - nw - 1)]⟩, []) := by
          unfold tickE
          rw [show popR [(17, du' - nw)] = ([], [(17, du' - nw - 1)]) by rw [popR, if_neg h1]; rfl]
          rfl
        have e2 : tickD X ⟨a, some k, 4, nw, si, du', hd⟩ live = (⟨a, some k, 4, nw + 1, si, du', hd⟩, []) := by
          unfold tickD
          dsimp only
          rw [if_neg (by rintro ⟨_, h⟩; omega), if_neg (by rintro (⟨h, _⟩ | ⟨h | h, _⟩) <;> cases h)]
        rw [e1, e2]
        exact ⟨⟨rfl, rfl, rfl, rfl, rfl, rfl, (Nat.le_succ_of_le hps), hl, ⟨hk, .inr (.inr (.inr ⟨rfl, hm, by show nw + 1 < du'; omega, by show du' ≤ nw + 1 + X.st k; omega, by show [(17, du' - nw - 1)] = [(17, du' - (nw + 1))]; rw [Nat.sub_sub]⟩))⟩⟩, rfl⟩
end Go.Proofs.YteflgdnekflbbaaDoor

namespace Go.Proofs.YteflgdnekflbbaaDoor

theorem sumBits_bit (c : Nat → Bool) : ∀ n, (((List.range n).filter c).foldl (fun (o i : Nat) => o + 2 ^ i) 0 < 2 ^ n) ∧ ∀ j, (((List.range n).filter c).foldl (fun (o i : Nat) => o + 2 ^ i) 0).testBit j = (decide (j < n) && c j)
  | 0 => ⟨by simp, fun j => by simp⟩
  | n + 1 => by
    obtain ⟨h1, h2⟩ := sumBits_bit c n
    rw [List.range_succ, List.filter_append, List.foldl_append]
    generalize ((List.range n).filter c).foldl (fun (o i : Nat) => o + 2 ^ i) 0 = S at *
    have hp : 2 ^ (n + 1) = 2 ^ n + 2 ^ n := by rw [Nat.pow_succ]; omega
    cases hc : c n
    · rw [List.filter_cons_of_neg (by simp [hc])]
      refine ⟨by simp; omega, fun j => ?_⟩
      show S.testBit j = _
      rw [h2 j]
      by_cases hj : j < n
      · simp [hj, Nat.lt_succ_of_lt hj]
      · by_cases hj2 : j = n
        · subst hj2; simp [hc]
        · simp [hj, show ¬ j < n + 1 by omega]
    · rw [List.filter_cons_of_pos (by simp [hc])]
      refine ⟨by show S + 2 ^ n < _; omega, fun j => ?_⟩
      show (S + 2 ^ n).testBit j = _
      have e : S + 2 ^ n = 2 ^ n ||| S := by
        have := Nat.two_pow_add_eq_or_of_lt h1 1
        rw [Nat.mul_one] at this
        rw [Nat.add_comm, this]
      rw [e, Nat.testBit_or, Nat.testBit_two_pow, h2 j]
      by_cases hj : j < n
      · simp [hj, Nat.lt_succ_of_lt hj, show ¬ n = j by omega]
      · by_cases hj2 : j = n
        · subst hj2; simp [hc]
        · simp [hj, show ¬ j < n + 1 by omega, show ¬ n = j by omega]
theorem newN_bit {X : ChX} (g : ChG X) (k j : Nat) : (newN X.x k).testBit j = ((setOf10 X.x (edg X.x k).to).testBit j && !(setOf10 X.x (edg X.x k).frm).testBit j) := by
  unfold newN
  exact minusN_testBit _ _ _ (by have := g.s16 (edg X.x k).to; omega) (by have := g.s16 (edg X.x k).frm; omega)
theorem set_bit16 {X : ChX} (g : ChG X) (m : Int) {j : Nat} (h : (setOf10 X.x m).testBit j = true) : j < 16 := by
  rcases Nat.lt_or_ge j 16 with h1 | h1
  · exact h1
  · rw [Nat.testBit_lt_two_pow (Nat.lt_of_lt_of_le (g.s16 m) (Nat.pow_le_pow_right (by decide) h1 : 2 ^ 16 ≤ 2 ^ j))] at h
    cases h
theorem bitsL_iff {X : ChX} (g : ChG X) (k j : Nat) : j ∈ bitsL (newN X.x k) ↔ (newN X.x k).testBit j = true := by
  rw [bitsL_mem]
  constructor
  · exact fun h => h.2
  · intro h
    rw [newN_bit g] at h
    simp only [Bool.and_eq_true] at h
    have := set_bit16 g _ h.1
    exact ⟨by omega, by rw [newN_bit g]; simp [h]⟩
theorem has10_nat (s j : Nat) (h : j < 32) : has10 s (j : Int) = s.testBit j := by
  unfold has10
  rw [Int.toNat_natCast]
  simp
  omega
theorem openE_eq {X : ChX} (g : ChG X) {s : EnS} {d : DcS} (h : RelE X s d) : openE X s = openD X d := by
  have hT := h.tm
  obtain ⟨a, e, p, si, nw, hd, op, tm⟩ := s
  obtain ⟨m', e', p', nw', si', du', hd'⟩ := d
  obtain ⟨rfl, rfl, rfl, rfl, rfl, rfl, hps, hl, _⟩ := h
  dsimp only at hps hl hT
  unfold openE openD
  dsimp only
  split
  · rfl
  · split
    · rename_i h3
      subst h3
      unfold TmRel at hT
      dsimp only at hT
      cases e with
      | none => exact absurd hT.1 (by decide)
      | some k =>
        obtain ⟨hk, hT⟩ := hT
        rcases hT with ⟨h, _⟩ | ⟨h, _⟩ | ⟨_, hp, hm, hle, hlt, hdu, L, _, hS⟩ | ⟨h, _⟩
        · cases h
        · cases h
        · have hft := g.ft k hk
          have hfr : (a : Int) = (edg X.x k).frm := by rw [hm]; unfold eFr; omega
          have hto : ((eTo X.x k : Nat) : Int) = (edg X.x k).to := by unfold eTo; omega
          simp only [Option.getD_some]
          rw [hfr, hto]
          refine Nat.eq_of_testBit_eq (fun j => ?_)
          rw [(sumBits_bit _ 16).2 j, Nat.testBit_or]
          unfold sameN
          rw [Nat.testBit_and]
          have hb : op.testBit j = decide ((newN X.x k).testBit j = true ∧ eOff X.x k j ≤ ((nw - si : Nat) : Int)) := by
            rw [Bool.eq_iff_iff, hS.opn j, bitsL_iff g, decide_eq_true_eq]
          rw [hb, newN_bit g]
          by_cases hj : j < 16
          · rw [has10_nat _ _ (by omega), has10_nat _ _ (by omega)]
            cases (setOf10 X.x (edg X.x k).frm).testBit j <;> cases (setOf10 X.x (edg X.x k).to).testBit j <;> simp [hj]
          · have ht : (setOf10 X.x (edg X.x k).to).testBit j = false := by
              cases hq : (setOf10 X.x (edg X.x k).to).testBit j
              · rfl
              · exact absurd (set_bit16 g _ hq) hj
            simp [hj, ht]
        · cases h
    · rfl
theorem activeE_eq {X : ChX} (g : ChG X) {s : EnS} {d : DcS} (h : RelE X s d) : activeE X s = activeD X d := by
  have hT := h.tm
  obtain ⟨a, e, p, si, nw, hd, op, tm⟩ := s
  obtain ⟨m', e', p', nw', si', du', hd'⟩ := d
  obtain ⟨rfl, rfl, rfl, rfl, rfl, rfl, hps, hl, _⟩ := h
  dsimp only at hps hl hT
  unfold activeE activeD
  dsimp only
  split
  · rename_i h3
    subst h3
    unfold TmRel at hT
    dsimp only at hT
    cases e with
    | none => exact absurd hT.1 (by decide)
    | some k =>
      obtain ⟨hk, hT⟩ := hT
      rcases hT with ⟨h, _⟩ | ⟨h, _⟩ | ⟨_, hp, hm, hle, hlt, hdu, L, _, hS⟩ | ⟨h, _⟩
      · cases h
      · cases h
      · have hft := g.ft k hk
        have hfr : (a : Int) = (edg X.x k).frm := by rw [hm]; unfold eFr; omega
        have hto : ((eTo X.x k : Nat) : Int) = (edg X.x k).to := by unfold eTo; omega
        simp only [Option.getD_some]
        rw [hfr, hto]
        refine Nat.eq_of_testBit_eq (fun j => ?_)
        rw [Nat.testBit_or, Nat.testBit_or, Nat.testBit_or, newN_bit g, minusN_testBit _ _ _ (by have := g.s16 (edg X.x k).frm; omega) (by have := g.s16 (edg X.x k).to; omega)]
        unfold sameN
        rw [Nat.testBit_and]
        cases (setOf10 X.x (edg X.x k).frm).testBit j <;> cases (setOf10 X.x (edg X.x k).to).testBit j <;> rfl
      · cases h
  · rfl

/-! A change comes to its end. -/
def rem (X : ChX) (d : DcS) : Nat := if d.ph = 1 then 1 + X.st (d.edge.getD 0) else if d.ph = 2 ∨ d.ph = 3 then (d.due - d.now) + X.st (d.edge.getD 0) else if d.ph = 4 then d.due - d.now else 0
theorem RelE.ph_edge {X : ChX} {s : EnS} {d : DcS} (h : RelE X s d) : (d.edge = none ∧ d.ph = 0 ∧ d.held = none) ∨ ∃ k, k < X.x.edges.length ∧ d.edge = some k ∧ d.ph ≠ 0 := by
  have hT := h.tm
  unfold TmRel at hT
  rw [h.edge, h.ph, h.held] at hT
  cases he : d.edge with
  | none => rw [he] at hT; exact .inl ⟨rfl, hT.1, hT.2.1⟩
  | some k =>
    rw [he] at hT
    obtain ⟨hk, hT⟩ := hT
    refine .inr ⟨k, hk, rfl, ?_⟩
    rcases hT with ⟨h, _⟩ | ⟨h, _⟩ | ⟨h, _⟩ | ⟨h, _⟩ <;> rw [h] <;> decide
theorem rem_le {X : ChX} {s : EnS} {d : DcS} (h : RelE X s d) {n : Nat} (hn : ∀ k, k < X.x.edges.length → X.la k + X.st k ≤ n) : rem X d ≤ n + 1 := by
  have hT := h.tm
  have hp := h.past
  unfold TmRel at hT
  rw [h.edge, h.ph] at hT
  rw [h.since, h.now] at hp
  unfold rem
  cases he : d.edge with
  | none => rw [he] at hT; rw [hT.1]; simp
  | some k =>
    rw [he] at hT
    obtain ⟨hk, hT⟩ := hT
    have := hn k hk
    simp only [Option.getD_some]
    have h2 := h.now
    have h3 := h.since
    rcases hT with ⟨h, _⟩ | ⟨h, _, _, _, hd, _⟩ | ⟨h, _, _, _, _, hd, _⟩ | ⟨h, _, _, hd, _⟩
    · rw [h]; simp; omega
    · rw [h]; simp; omega
    · rw [h]; simp; omega
    · rw [h]; simp; omega
theorem rem_pos {X : ChX} {s : EnS} {d : DcS} (h : RelE X s d) (h0 : d.ph ≠ 0) : 0 < rem X d := by
  have hT := h.tm
  unfold TmRel at hT
  rw [h.edge, h.ph] at hT
  have h2 := h.now
  unfold rem
  cases he : d.edge with
  | none => rw [he] at hT; exact absurd hT.1 h0
  | some k =>
    rw [he] at hT
    obtain ⟨hk, hT⟩ := hT
    rcases hT with ⟨h, _⟩ | ⟨h, _, _, _, hd, _⟩ | ⟨h, _, _, _, _, hd, _⟩ | ⟨h, _, _, hd, _⟩
    · rw [h]; simp; omega
    · rw [h]; simp; omega
    · rw [h]; simp; omega
    · rw [h]; simp; omega
/-- A tick, while no job is there and nothing is asked for next. -/
theorem tick_none {X : ChX} {s : EnS} {d : DcS} (h : RelE X s d) (hh : d.held = none) (h0 : d.ph ≠ 0) :
    (tickD X d false).1.held = none ∧ (((tickD X d false).1.ph = 0 ∧ (tickD X d false).1.edge = none) ∨ ((tickD X d false).1.ph ≠ 0 ∧ (tickD X d false).1.edge = d.edge ∧ rem X (tickD X d false).1 + 1 ≤ rem X d)) := by
  have hT := h.tm
  unfold TmRel at hT
  rw [h.edge, h.ph, h.now, h.since] at hT
  obtain ⟨m, e, p, nw, si, du, hd⟩ := d
  dsimp only at hT hh h0
  subst hh
  cases e with
  | none => exact absurd hT.1 h0
  | some k =>
    obtain ⟨hk, hT⟩ := hT
    have come : ∀ p', comeD1 X false ⟨m, some k, p', nw + 1, si, du, none⟩ = if 0 < X.st k then (⟨eTo X.x k, some k, 4, nw + 1, si, nw + 1 + X.st k, none⟩, [⟨2, k, eTo X.x k, nw + 1 - si⟩]) else (⟨eTo X.x k, none, 0, nw + 1, si, nw + 1 + X.st k, none⟩, [⟨2, k, eTo X.x k, nw + 1 - si⟩, ⟨3, k, eTo X.x k, 0⟩]) := by
      intro p'
      unfold comeD1 comeDW overD1 overD0
      rfl
    unfold tickD
    dsimp only
    rcases hT with ⟨rfl, _⟩ | ⟨rfl, _, _, hlt, hdu, _⟩ | ⟨rfl, _, _, _, hlt, hdu, _⟩ | ⟨rfl, _, hlt, hdu, _⟩
    · rw [if_neg (by rintro ⟨h, _⟩; cases h), if_pos (.inl ⟨rfl, rfl⟩), come]
      split
      · refine ⟨rfl, .inr ⟨(fun e => by cases e), rfl, ?_⟩⟩
        unfold rem; simp; omega
      · exact ⟨rfl, .inl ⟨rfl, rfl⟩⟩
    · rw [if_neg (by rintro ⟨h, _⟩; cases h)]
      split
      · rw [come]
        split
        · refine ⟨rfl, .inr ⟨(fun e => by cases e), rfl, ?_⟩⟩
          unfold rem; simp; omega
        · exact ⟨rfl, .inl ⟨rfl, rfl⟩⟩
      · rename_i hne
        refine ⟨rfl, .inr ⟨h0, rfl, ?_⟩⟩
        unfold rem
        simp
        have : ¬ nw + 1 = du := fun e => hne (.inr ⟨.inl rfl, e⟩)
        omega
    · rw [if_neg (by rintro ⟨h, _⟩; cases h)]
      split
      · rw [come]
        split
        · refine ⟨rfl, .inr ⟨(fun e => by cases e), rfl, ?_⟩⟩
          unfold rem; simp; omega
        · exact ⟨rfl, .inl ⟨rfl, rfl⟩⟩
      · rename_i hne
        refine ⟨rfl, .inr ⟨h0, rfl, ?_⟩⟩
        unfold rem
        simp
        have : ¬ nw + 1 = du := fun e => hne (.inr ⟨.inr rfl, e⟩)
        omega
    · split
      · unfold overD1 overD0
        exact ⟨rfl, .inl ⟨rfl, rfl⟩⟩
      · rename_i hne
        rw [if_neg (by rintro (⟨h, _⟩ | ⟨h | h, _⟩) <;> cases h)]
        refine ⟨rfl, .inr ⟨h0, rfl, ?_⟩⟩
        unfold rem
        simp
        have : ¬ nw + 1 = du := fun e => hne ⟨rfl, e⟩
        omega
theorem tick_off {X : ChX} {d : DcS} (h0 : d.ph = 0) : (tickD X d false).1 = { d with now := d.now + 1 } := by
  unfold tickD
  dsimp only
  rw [if_neg (by rintro ⟨h, _⟩; rw [h0] at h; cases h), if_neg (by rintro (⟨h, _⟩ | ⟨h | h, _⟩) <;> rw [h0] at h <;> cases h)]
theorem come0_held (X : ChX) (d : DcS) : (comeD0 X d).1.held = d.held := by
  unfold comeD0 comeDW overD0
  dsimp only
  split <;> rfl
theorem begin_held (X : ChX) (d : DcS) (k : Nat) (live : Bool) : (beginD X d k live).1.held = d.held := by
  unfold beginD
  dsimp only
  split
  · exact come0_held X _
  · rfl
theorem over1_held (X : ChX) (live : Bool) (d : DcS) : (overD1 X live d).1.held = none := by
  unfold overD1
  cases hd : d.held with
  | none => exact hd
  | some h =>
    dsimp only
    cases edgeAt X.x.edges (d.mode : Int) (h : Int) with
    | none => rfl
    | some i => exact begin_held X _ i live
/-- A tick, while one is asked for next. -/
theorem tick_some {X : ChX} {s : EnS} {d : DcS} (h : RelE X s d) (h0 : d.ph ≠ 0) :
    (tickD X d false).1.held = none ∨ ((tickD X d false).1.held = d.held ∧ (tickD X d false).1.ph ≠ 0 ∧ rem X (tickD X d false).1 + 1 ≤ rem X d) := by
  have hT := h.tm
  unfold TmRel at hT
  rw [h.edge, h.ph, h.now, h.since] at hT
  obtain ⟨m, e, p, nw, si, du, hd⟩ := d
  dsimp only at hT h0
  cases e with
  | none => exact absurd hT.1 h0
  | some k =>
    obtain ⟨hk, hT⟩ := hT
    have come : ∀ p', (comeD1 X false ⟨m, some k, p', nw + 1, si, du, hd⟩).1.held = none ∨ (0 < X.st k ∧ (comeD1 X false ⟨m, some k, p', nw + 1, si, du, hd⟩).1 = ⟨eTo X.x k, some k, 4, nw + 1, si, nw + 1 + X.st k, hd⟩) := by
      intro p'
      unfold comeD1 comeDW
      dsimp only [Option.getD_some]
      split
      · rename_i hs; exact .inr ⟨hs, rfl⟩
      · exact .inl (over1_held _ _ _)
    unfold tickD
    dsimp only
    rcases hT with ⟨rfl, _⟩ | ⟨rfl, _, _, hlt, hdu, _⟩ | ⟨rfl, _, _, _, hlt, hdu, _⟩ | ⟨rfl, _, hlt, hdu, _⟩
    · rw [if_neg (by rintro ⟨h, _⟩; cases h), if_pos (.inl ⟨rfl, rfl⟩)]
      rcases come 1 with h | ⟨hs, h⟩
      · exact .inl h
      · rw [h]
        refine .inr ⟨rfl, (fun e => by cases e), ?_⟩
        unfold rem; simp; omega
    · rw [if_neg (by rintro ⟨h, _⟩; cases h)]
      split
      · rcases come 2 with h | ⟨hs, h⟩
        · exact .inl h
        · rw [h]
          refine .inr ⟨rfl, (fun e => by cases e), ?_⟩
          unfold rem; simp; omega
      · rename_i hne
        refine .inr ⟨rfl, h0, ?_⟩
        unfold rem
        simp
        have : ¬ nw + 1 = du := fun e => hne (.inr ⟨.inl rfl, e⟩)
        omega
    · rw [if_neg (by rintro ⟨h, _⟩; cases h)]
      split
      · rcases come 3 with h | ⟨hs, h⟩
        · exact .inl h
        · rw [h]
          refine .inr ⟨rfl, (fun e => by cases e), ?_⟩
          unfold rem; simp; omega
      · rename_i hne
        refine .inr ⟨rfl, h0, ?_⟩
        unfold rem
        simp
        have : ¬ nw + 1 = du := fun e => hne (.inr ⟨.inr rfl, e⟩)
        omega
    · split
      · exact .inl (over1_held _ _ _)
      · rename_i hne
        rw [if_neg (by rintro (⟨h, _⟩ | ⟨h | h, _⟩) <;> cases h)]
        refine .inr ⟨rfl, h0, ?_⟩
        unfold rem
        simp
        have : ¬ nw + 1 = du := fun e => hne ⟨rfl, e⟩
        omega
end Go.Proofs.YteflgdnekflbbaaDoor
