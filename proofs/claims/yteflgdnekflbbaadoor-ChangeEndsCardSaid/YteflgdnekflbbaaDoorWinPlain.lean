/- The plain law of windows: terms with offsets; what the program reckons of a change is what the document says. No program in sight. -/
import Derived.Test.YteflgdnekflbbaaDoorSdLaw
import Derived.Test.YteflgdnekflbbaaDoorCwRight
namespace Go.Proofs.YteflgdnekflbbaaDoor

/-- A term of small numbers, with an offset. -/
structure GoodO (t : Trm) : Prop where
  per : 1 ≤ t.per ∧ t.per ≤ 4096
  cost : 1 ≤ t.cost ∧ t.cost ≤ 4096
  off : 0 ≤ t.off ∧ t.off ≤ 16384
  car : 0 ≤ t.car ∧ t.car ≤ 4096
def base (t : Trm) : Trm := { t with off := 0 }
theorem GoodO.good {t : Trm} (h : GoodO t) : GoodT (base t) := ⟨h.per, h.cost, rfl, h.car⟩
def workO (t : Trm) (n : Int) : Int := workV (base t) (max (n - t.off) 0)
def allO (ts : List Trm) (n : Int) : Int := (ts.map (fun t => workO t n)).sum
theorem workV_le_o {t : Trm} (h : GoodO t) {n : Int} (h0 : 0 ≤ n) (h1 : n ≤ 65536) : 0 ≤ workO t n ∧ workO t n ≤ 300000000 :=
  workV_le h.good (by omega) (by have := h.off; omega)
theorem workM_eq_o {t : Trm} (h : GoodO t) {n : Int} (h0 : 0 ≤ n) (h1 : n ≤ 65536) : workM t n = some (workO t n) := by
  have ho := h.off
  have e := workM_eq h.good (n := max (n - t.off) 0) (by omega) (by omega)
  unfold workO
  rw [← e]
  have e1 : lessM n t.off = some (max (n - t.off) 0) := by
    unfold lessM
    rw [inM_iff.2 ⟨h0, by omega⟩, inM_iff.2 (by omega : 0 ≤ t.off ∧ t.off ≤ 1099511627776)]
    rfl
  have e2 : lessM (max (n - t.off) 0) (base t).off = some (max (n - t.off) 0) := by
    unfold lessM
    rw [inM_iff.2 (by omega : 0 ≤ max (n - t.off) 0 ∧ _), inM_iff.2 (by show (0 : Int) ≤ 0 ∧ (0 : Int) ≤ 1099511627776; omega)]
    show some (max (max (n - t.off) 0 - 0) 0) = _
    rw [show max (max (n - t.off) 0 - 0) 0 = max (n - t.off) 0 by omega]
  unfold workM jobsM
  rw [e1, e2]
  rfl
theorem allV_cons_o (t : Trm) (ts : List Trm) (n : Int) : allO (t :: ts) n = workO t n + allO ts n := by simp [allO]
theorem allV_append_o (a1 b1 : List Trm) (n : Int) : allO (a1 ++ b1) n = allO a1 n + allO b1 n := by simp [allO]
theorem allV_le_o : ∀ {ts : List Trm} (_ : ∀ t ∈ ts, GoodO t) {n : Int}, 0 ≤ n → n ≤ 65536 → 0 ≤ allO ts n ∧ allO ts n ≤ 300000000 * ts.length
  | [], _, n, _, _ => by simp [allO]
  | t :: ts, h, n, h0, h1 => by
    have a := workV_le_o (h t (by simp)) h0 h1
    have b := allV_le_o (fun u hu => h u (by simp [hu])) h0 h1 (ts := ts)
    rw [allV_cons_o, List.length_cons]
    push_cast
    omega
theorem worksM_eq_o : ∀ {ts : List Trm} (_ : ∀ t ∈ ts, GoodO t) {n : Int}, 0 ≤ n → n ≤ 65536 → worksM n ts = some (ts.map (fun t => workO t n))
  | [], _, n, _, _ => rfl
  | t :: ts, h, n, h0, h1 => by
    rw [worksM, workM_eq_o (h t (by simp)) h0 h1, worksM_eq_o (fun u hu => h u (by simp [hu])) h0 h1]
    rfl
theorem allM_eq_o {ts : List Trm} (h : ∀ t ∈ ts, GoodO t) (hl : ts.length ≤ 64) {n : Int} (h0 : 0 ≤ n) (h1 : n ≤ 65536) : allM ts n = some (allO ts n) := by
  have hb := allV_le_o h h0 h1
  unfold allM
  rw [worksM_eq_o h h0 h1]
  show sumFrom 0 _ = _
  rw [sumFrom_eq _ 0 (by omega) ?_ ?_]
  · simp [allO]
  · intro z hz
    obtain ⟨t, ht, rfl⟩ := List.mem_map.1 hz
    exact (workV_le_o (h t ht) h0 h1).1
  · unfold allO at hb; omega
theorem workV_mono_o {t : Trm} (h : GoodO t) {a b : Int} (_h0 : 0 ≤ a) (hab : a ≤ b) : workO t a ≤ workO t b :=
  workV_mono h.good (by omega) (by omega)
theorem allV_mono_o : ∀ {ts : List Trm} (_ : ∀ t ∈ ts, GoodO t) {a b : Int}, 0 ≤ a → a ≤ b → allO ts a ≤ allO ts b
  | [], _, _, _, _, _ => by simp [allO]
  | t :: ts, h, a, b, h0, hab => by
    rw [allV_cons_o, allV_cons_o]
    have := workV_mono_o (h t (by simp)) h0 hab
    have := allV_mono_o (fun u hu => h u (by simp [hu])) h0 hab (ts := ts)
    omega
theorem stepV_o {ts : List Trm} (h : ∀ t ∈ ts, GoodO t) (hl : ts.length ≤ 64) {own n : Int} (ho : 0 ≤ own) (ho2 : own ≤ 1000000000) (h0 : 0 ≤ n) (h1 : n ≤ 65536) : stepM own (allM ts) n = some (own + allO ts n) := by
  have hb := allV_le_o h h0 h1
  unfold stepM
  rw [allM_eq_o h hl h0 h1]
  show addM own _ = _
  unfold addM
  rw [inM_iff.2 (by omega), inM_iff.2 (by omega), if_pos (by simp; omega)]
/-- By steps, or one by one: the same. -/
theorem least_steps_o {ts : List Trm} (h : ∀ t ∈ ts, GoodO t) (hl : ts.length ≤ 64) {own most : Int} (ho : 0 ≤ own) (ho2 : own ≤ 1000000000) (hm : most ≤ 65536) : leastM own most (allM ts) = leastR own most (allM ts) := by
  refine least_same own most _ (fun v h1 h2 => ⟨_, stepV_o h hl ho ho2 (by omega) (by omega)⟩) (fun u v s t h1 h2 h3 hs ht => ?_)
  rw [stepV_o h hl ho ho2 (by omega) (by omega)] at hs ht
  injection hs with hs
  injection ht with ht
  have := allV_mono_o h (show 0 ≤ u by omega) h2
  omega
/-- What the least time is. -/
theorem leastR_some_o {ts : List Trm} (h : ∀ t ∈ ts, GoodO t) (hl : ts.length ≤ 64) {own most : Int} (ho : 0 ≤ own) (ho2 : own ≤ 1000000000) (hm : most ≤ 65536) {n : Int} (hn : leastR own most (allM ts) = some n) :
    max own 1 ≤ n ∧ n ≤ most ∧ own + allO ts n ≤ n ∧ ∀ v, max own 1 ≤ v → v < n → v < own + allO ts v := by
  unfold leastR at hn
  rw [if_neg (by omega)] at hn
  rcases upFrom_spec own most (allM ts) (most + 1 - max own 1).toNat (max own 1) (Int.self_le_toNat _) (fun v h1 h2 => ⟨_, stepV_o h hl ho ho2 (by omega) (by omega)⟩) with ⟨m, h1, h2, h3, ⟨s, h4, h5⟩, h6⟩ | ⟨h1, _⟩
  · rw [h1] at hn
    injection hn with hn
    subst hn
    rw [stepV_o h hl ho ho2 (by omega) (by omega)] at h4
    injection h4 with h4
    refine ⟨h2, h3, by omega, fun v hv1 hv2 => ?_⟩
    obtain ⟨s', e, h7⟩ := h6 v hv1 hv2
    rw [stepV_o h hl ho ho2 (by omega) (by omega)] at e
    injection e with e
    omega
  · rw [h1] at hn; cases hn
theorem leastR_none_o {ts : List Trm} (h : ∀ t ∈ ts, GoodO t) (hl : ts.length ≤ 64) {own most : Int} (ho : 0 ≤ own) (ho2 : own ≤ 1000000000) (hm : most ≤ 65536) (hn : leastR own most (allM ts) = none) :
    ∀ v, max own 1 ≤ v → v ≤ most → v < own + allO ts v := by
  unfold leastR at hn
  rw [if_neg (by omega)] at hn
  rcases upFrom_spec own most (allM ts) (most + 1 - max own 1).toNat (max own 1) (Int.self_le_toNat _) (fun v h1 h2 => ⟨_, stepV_o h hl ho ho2 (by omega) (by omega)⟩) with ⟨m, h1, _⟩ | ⟨_, h2⟩
  · rw [h1] at hn; cases hn
  · intro v hv1 hv2
    obtain ⟨s', e, h7⟩ := h2 v hv1 hv2
    rw [stepV_o h hl ho ho2 (by omega) (by omega)] at e
    injection e with e
    omega
/-- More work at first, more that comes: no less time. -/
theorem leastR_grows_o {ts us : List Trm} (h : ∀ t ∈ ts, GoodO t) (hu : ∀ t ∈ us, GoodO t) (hl : ts.length ≤ 64) (hl' : us.length ≤ 64) {a b most : Int} (ha : 0 ≤ a) (hab : a ≤ b) (hb : b ≤ 1000000000) {most' : Int} (hmm : most ≤ most') (hm : most' ≤ 65536)
    (hv : ∀ v, 0 ≤ v → v ≤ 65536 → allO ts v ≤ allO us v) {n : Int} (hn : leastR b most (allM us) = some n) : ∃ m, leastR a most' (allM ts) = some m ∧ m ≤ n := by
  obtain ⟨h1, h2, h3, _⟩ := leastR_some_o hu hl' (by omega) hb (by omega) hn
  have hvn := hv n (by omega) (by omega)
  cases hm2 : leastR a most' (allM ts) with
  | none =>
    have := leastR_none_o h hl ha (by omega) hm hm2 n (by omega) (by omega)
    omega
  | some m =>
    obtain ⟨g1, g2, g3, g4⟩ := leastR_some_o h hl ha (by omega) hm hm2
    refine ⟨m, rfl, ?_⟩
    rcases Int.lt_or_le n m with hlt | hle
    · have := g4 n (by omega) hlt
      omega
    · exact hle

/-- What becomes of tasks along an edge: those that are left, brought, kept. -/
structure Cls where
  old : Nat
  new : Nat
  same : Nat
  deriving DecidableEq
def Cls.both (c : Cls) : Nat := (c.old ||| c.new) ||| c.same
def Cls.to (c : Cls) : Nat := c.new ||| c.same
def clsOf (f t : Nat) : Cls := ⟨minusN f t, minusN t f, f &&& t⟩
structure Cls.Ok (c : Cls) : Prop where
  old : c.old < 4294967296
  new : c.new < 4294967296
  same : c.same < 4294967296
theorem Cls.Ok.both {c : Cls} (h : c.Ok) : c.both < 4294967296 := Nat.or_lt_two_pow (n := 32) (Nat.or_lt_two_pow (n := 32) h.old h.new) h.same
theorem Cls.Ok.to {c : Cls} (h : c.Ok) : c.to < 4294967296 := Nat.or_lt_two_pow (n := 32) h.new h.same
theorem clsOf_ok {f t : Nat} (hf : f < 4294967296) (ht : t < 4294967296) : (clsOf f t).Ok :=
  ⟨minusN_lt _ _ hf, minusN_lt _ _ ht, Nat.lt_of_le_of_lt Nat.and_le_left hf⟩
theorem clsOf_both {f t : Nat} (hf : f < 4294967296) (ht : t < 4294967296) : (clsOf f t).both = f ||| t := by
  apply Nat.eq_of_testBit_eq
  intro i
  unfold Cls.both clsOf
  simp only [Nat.testBit_or, Nat.testBit_and, minusN_testBit _ _ _ hf ht, minusN_testBit _ _ _ ht hf]
  cases f.testBit i <;> cases t.testBit i <;> rfl
theorem clsOf_to {f t : Nat} (hf : f < 4294967296) (ht : t < 4294967296) : (clsOf f t).to = t := by
  apply Nat.eq_of_testBit_eq
  intro i
  unfold Cls.to clsOf
  simp only [Nat.testBit_or, Nat.testBit_and, minusN_testBit _ _ _ ht hf]
  cases f.testBit i <;> cases t.testBit i <;> rfl
theorem clsOf_new {f t : Nat} (hf : f < 4294967296) (ht : t < 4294967296) (i : Int) : has10 (clsOf f t).new i = (has10 t i && !has10 f i) := by
  unfold has10 clsOf
  simp only [minusN_testBit _ _ _ ht hf]
  cases decide (0 ≤ i) <;> cases decide (i < 32) <;> cases t.testBit i.toNat <;> cases f.testBit i.toNat <;> rfl
theorem has10_or (f t : Nat) (i : Int) : has10 (f ||| t) i = (has10 f i || has10 t i) := by
  unfold has10
  simp only [Nat.testBit_or]
  cases decide (0 ≤ i) <;> cases decide (i < 32) <;> cases t.testBit i.toNat <;> cases f.testBit i.toNat <;> rfl
theorem has_bitN (s : Nat) (i : Int) : decide (s &&& bitN i ≠ 0) = has10 s i := by
  unfold has10 bitN
  by_cases h : 0 ≤ i ∧ i ≤ 31
  · rw [if_pos h, decide_eq_true h.1, decide_eq_true (show i < 32 by omega), Bool.eq_iff_iff]
    simp only [decide_eq_true_eq, Bool.true_and]
    constructor
    · intro hn
      by_cases hb : s.testBit i.toNat = true
      · exact hb
      · exfalso
        apply hn
        apply Nat.eq_of_testBit_eq
        intro k
        rw [Nat.testBit_and, Nat.testBit_two_pow, Nat.zero_testBit]
        by_cases e : i.toNat = k
        · subst e; simp at hb; simp [hb]
        · simp [e]
    · intro hb h0
      have h1 : (s &&& 2 ^ i.toNat).testBit i.toNat = true := by rw [Nat.testBit_and, Nat.testBit_two_pow, hb]; simp
      rw [h0, Nat.zero_testBit] at h1
      cases h1
  · rw [if_neg h]
    have : (decide (0 ≤ i) && decide (i < 32)) = false := by
      rw [Bool.and_eq_false_iff]
      simp only [decide_eq_false_iff_not]
      omega
    rw [this]
    simp

/-- From which offset on a task may come. -/
def offW (c : Cls) (L : List Int) (i : Int) : Int := if has10 c.new i = true then L.getD i.toNat 0 else 0
def termW (l : List Tsk) (c : Cls) (L : List Int) (i : Nat) : List Trm := match l[i]? with | some t => [⟨t.per, t.cost, offW c L i, 0⟩] | none => []
def termsW (l : List Tsk) (c : Cls) (L : List Int) (is : List Nat) : List Trm := is.flatMap (termW l c L)
/-- What goes ahead of a task. -/
def aheadW (l : List Tsk) (c : Cls) (L : List Int) (task : Int) : List Trm := termsW l c L (bitsL (belowN c.both task))
theorem termW_le (l : List Tsk) (c : Cls) (L : List Int) (i : Nat) : (termW l c L i).length ≤ 1 := by unfold termW; split <;> simp
theorem termsW_le (l : List Tsk) (c : Cls) (L : List Int) : ∀ is : List Nat, (termsW l c L is).length ≤ is.length
  | [] => by simp [termsW]
  | i :: is => by
    have h1 := termW_le l c L i
    have h2 := termsW_le l c L is
    unfold termsW at *
    rw [List.flatMap_cons, List.length_append, List.length_cons]
    omega
theorem aheadW_le (l : List Tsk) (c : Cls) (L : List Int) (task : Int) : (aheadW l c L task).length ≤ 32 := Nat.le_trans (termsW_le l c L _) (bitsL_le _)
def winAt (x : Img) (c : Cls) (T L : List Int) (task : Nat) (t : Tsk) : Option Int :=
  leastM (t.cost + blockM x.tasks c.both T (task : Int)) (t.ded + offW c L (task : Int)) (allM (aheadW x.tasks c L (task : Int)))
/-- A task's window. -/
def winM (x : Img) (c : Cls) (T L : List Int) (task : Int) : Option Int :=
  if has10 c.both task = true then (match x.tasks[task.toNat]? with | some t => winAt x c T L task.toNat t | none => none) else none
/-- A task's time behind. -/
def behM (x : Img) (c : Cls) (T : List Int) (task : Int) : Option Int :=
  if has10 c.to task = true then (match x.tasks[task.toNat]? with | some t => respAt x c.to c.both T task.toNat t | none => none) else none
/-- May a task be late? Else its longest time. -/
def lateM (x : Img) (c : Cls) (T L : List Int) (task : Int) : Int × Bool := match winM x c T L task with
  | none => (0, true)
  | some n => if has10 c.to task = true then (max n ((behM x c T task).getD 0), (behM x c T task).isNone) else (n, false)
def lateL (x : Img) (c : Cls) (T L : List Int) : List Nat := (bitsL c.both).filter (fun (i : Nat) => (lateM x c T L (i : Int)).2)
def spanStep (x : Img) (c : Cls) (T L : List Int) (p : Int × Int) (i : Nat) : Int × Int := (max p.1 (lateM x c T L (i : Int)).1, max p.2 (offW c L (i : Int)))
def spanIn (x : Img) (c : Cls) (T L : List Int) (is : List Nat) : Int × Int := is.foldl (spanStep x c T L) (0, 0)
/-- How long a change takes, and settles. -/
def spanM (x : Img) (c : Cls) (T L : List Int) : Option (Int × Int) :=
  if lateL x c T L = [] then some (max (spanIn x c T L (bitsL c.both)).1 (spanIn x c T L (bitsL c.both)).2, (spanIn x c T L (bitsL c.both)).1) else none

/-! The document's. -/
def offR (f t : Nat) (L : List Int) (i : Int) : Int := if has10 t i = true ∧ has10 f i = false then L.getD i.toNat 0 else 0
def termR (l : List Tsk) (f t : Nat) (L : List Int) (i : Nat) : List Trm := match l[i]? with | some k => [⟨k.per, k.cost, offR f t L i, 0⟩] | none => []
def aheadR (l : List Tsk) (f t : Nat) (L : List Int) : Nat → List Trm
  | 0 => []
  | k + 1 => aheadR l f t L k ++ (if has10 (f ||| t) (k : Int) = true then termR l f t L k else [])
theorem aheadR_le (l : List Tsk) (f t : Nat) (L : List Int) : ∀ k, (aheadR l f t L k).length ≤ k
  | 0 => by simp [aheadR]
  | k + 1 => by
    have h1 := aheadR_le l f t L k
    have h2 : (termR l f t L k).length ≤ 1 := by unfold termR; split <;> simp
    rw [aheadR, List.length_append]
    split <;> simp <;> omega
def winR (x : Img) (f t : Nat) (L : List Int) (i : Nat) : Option Int :=
  if has10 (f ||| t) (i : Int) = true then (match x.tasks[i]? with | some k => leastR (k.cost + rblock x.tasks (f ||| t) (f ||| t) i) (k.ded + offR f t L i) (allM (aheadR x.tasks f t L i)) | none => none) else none
def behR (x : Img) (f t : Nat) (i : Nat) : Option Int := if has10 t (i : Int) = true then rrespM x t (f ||| t) (f ||| t) i else none
def lateR (x : Img) (f t : Nat) (L : List Int) (i : Nat) : Bool := has10 (f ||| t) (i : Int) && ((winR x f t L i).isNone || (has10 t (i : Int) && (behR x f t i).isNone))
def lateRL (x : Img) (f t : Nat) (L : List Int) (n : Nat) : List Nat := (List.range n).filter (lateR x f t L)
def greatM (a b : Int) : Int := if a > b then a else b
theorem greatM_max (a b : Int) : greatM a b = max a b := by unfold greatM; split <;> omega
def stepR (x : Img) (f t : Nat) (L : List Int) (p : Int × Int) (i : Nat) : Int × Int :=
  (greatM p.1 (greatM ((winR x f t L i).getD 0) ((behR x f t i).getD 0)), greatM p.2 (offR f t L (i : Int)))
def spanRI (x : Img) (f t : Nat) (L : List Int) (n : Nat) : Int × Int := (List.range n).foldl (stepR x f t L) (0, 0)
def spanR (x : Img) (f t : Nat) (L : List Int) : Option (Int × Int) :=
  if lateRL x f t L x.tasks.length = [] then some (greatM (spanRI x f t L x.tasks.length).1 (spanRI x f t L x.tasks.length).2, (spanRI x f t L x.tasks.length).1) else none

/-- Offsets that may be. -/
def OffOk (L : List Int) : Prop := L.length = 16 ∧ ∀ z ∈ L, 0 ≤ z ∧ z ≤ 16384
theorem OffOk.get {L : List Int} (h : OffOk L) (k : Nat) : 0 ≤ L.getD k 0 ∧ L.getD k 0 ≤ 16384 := by
  rw [List.getD_eq_getElem?_getD]
  cases e : L[k]? with
  | none => simp
  | some z => exact h.2 z (List.mem_of_getElem? e)
theorem offW_le {c : Cls} {L : List Int} (h : OffOk L) (i : Int) : 0 ≤ offW c L i ∧ offW c L i ≤ 16384 := by
  unfold offW
  split
  · exact h.get _
  · omega
theorem offR_same {f t : Nat} (hf : f < 4294967296) (ht : t < 4294967296) (L : List Int) (i : Int) : offW (clsOf f t) L i = offR f t L i := by
  unfold offW offR
  rw [clsOf_new hf ht]
  cases has10 t i <;> cases has10 f i <;> simp
theorem termR_same {f t : Nat} (hf : f < 4294967296) (ht : t < 4294967296) (l : List Tsk) (L : List Int) (i : Nat) : termW l (clsOf f t) L i = termR l f t L i := by
  unfold termW termR
  rw [offR_same hf ht]
theorem good_termW {x : Img} (h : Small x) {c : Cls} {L : List Int} (hL : OffOk L) (i : Nat) : ∀ t ∈ termW x.tasks c L i, GoodO t := by
  intro t ht
  unfold termW at ht
  cases hk : x.tasks[i]? with
  | none => rw [hk] at ht; simp at ht
  | some u =>
    rw [hk] at ht
    have hm := List.mem_of_getElem? hk
    obtain rfl : t = ⟨u.per, u.cost, offW c L i, 0⟩ := by simpa using ht
    exact ⟨h.per u hm, h.cost u hm, offW_le hL _, by show (0 : Int) ≤ 0 ∧ (0 : Int) ≤ 4096; omega⟩
theorem good_aheadW {x : Img} (h : Small x) {c : Cls} {L : List Int} (hL : OffOk L) (task : Int) : ∀ t ∈ aheadW x.tasks c L task, GoodO t := by
  intro t ht
  obtain ⟨i, _, hi⟩ := List.mem_flatMap.1 ht
  exact good_termW h hL i t hi
theorem flat_fold {α β : Type} (g : α → List β) : ∀ (is : List α) (b : List β), is.foldl (fun b i => b ++ g i) b = b ++ is.flatMap g
  | [], b => by simp
  | i :: is, b => by rw [List.foldl_cons, flat_fold g is, List.flatMap_cons, List.append_assoc]
theorem ahead_same {f t : Nat} (hf : f < 4294967296) (ht : t < 4294967296) (l : List Tsk) (L : List Int) (k : Nat) (hk : k ≤ l.length) (hn : l.length ≤ 16) : aheadW l (clsOf f t) L (k : Int) = aheadR l f t L k := by
  have hb := clsOf_both hf ht
  have h1 : aheadW l (clsOf f t) L (k : Int) = (bitsL (belowN (f ||| t) (k : Int))).foldl (fun b i => b ++ termR l f t L i) [] := by
    unfold aheadW termsW
    rw [hb, flat_fold, List.nil_append]
    congr 1
    funext i
    exact termR_same hf ht l L i
  rw [h1, bits_fold _ _ l.length (by omega) (fun b i hi => by unfold termR; rw [List.getElem?_eq_none hi]; simp)]
  have h2 : ∀ j, j ≤ l.length → (List.range j).foldl (fun b i => if (belowN (f ||| t) (k : Int)).testBit i = true then b ++ termR l f t L i else b) [] = aheadR l f t L (min j k) := by
    intro j
    induction j with
    | zero => intro _; simp [aheadR]
    | succ j ih =>
      intro hj
      rw [List.range_succ, List.foldl_append, ih (by omega)]
      simp only [List.foldl_cons, List.foldl_nil]
      rw [belowN_bit _ _ _ (by omega)]
      rcases Nat.lt_or_ge j k with hjk | hjk
      · rw [show min (j + 1) k = min j k + 1 by omega, show min j k = j by omega, aheadR, has10_nat (by omega)]
        rw [decide_eq_true (show (j : Int) < (k : Int) by omega), Bool.and_true]
        split <;> simp
      · rw [show min (j + 1) k = min j k by omega]
        rw [decide_eq_false (show ¬ (j : Int) < (k : Int) by omega), Bool.and_false]
        simp
  rw [h2 l.length (Nat.le_refl _), show min l.length k = k by omega]
theorem win_same {x : Img} (h : Small x) {f t : Nat} (hf : f < 4294967296) (ht : t < 4294967296) {L : List Int} (hL : OffOk L) (i : Nat) :
    winM x (clsOf f t) (ceilOf x.tasks (f ||| t)) L (i : Int) = winR x f t L i := by
  have hn := h.n
  unfold winM winR
  rw [clsOf_both hf ht, Int.toNat_natCast]
  split
  · cases hk : x.tasks[i]? with
    | none => rfl
    | some k =>
      have hi := (List.getElem?_eq_some_iff.1 hk).1
      have hm := List.mem_of_getElem? hk
      have hc := h.cost _ hm
      have hd := h.ded _ hm
      have hb := rblockTo_le h (f ||| t) (f ||| t) i 8
      have hal := aheadW_le x.tasks (clsOf f t) L (i : Int)
      have ho := offW_le (c := clsOf f t) hL (i : Int)
      show winAt x (clsOf f t) (ceilOf x.tasks (f ||| t)) L i k = leastR _ _ _
      unfold winAt
      rw [clsOf_both hf ht, block_same x.tasks (f ||| t) (f ||| t) i (Nat.or_lt_two_pow (n := 32) hf ht) hn (by omega), ← offR_same hf ht, ← ahead_same hf ht x.tasks L i (by omega) hn]
      unfold rblock
      exact least_steps_o (good_aheadW h hL _) (by omega) (by omega) (by omega) (by omega)
  · rfl
theorem beh_same {x : Img} (h : Small x) {f t : Nat} (hf : f < 4294967296) (ht : t < 4294967296) (i : Nat) :
    behM x (clsOf f t) (ceilOf x.tasks (f ||| t)) (i : Int) = behR x f t i := by
  have hn := h.n
  have hft : f ||| t < 4294967296 := Nat.or_lt_two_pow (n := 32) hf ht
  unfold behM behR
  rw [clsOf_to hf ht, clsOf_both hf ht, Int.toNat_natCast]
  split
  · unfold rrespM
    cases hk : x.tasks[i]? with
    | none => rfl
    | some k =>
      have hi := (List.getElem?_eq_some_iff.1 hk).1
      have hm := List.mem_of_getElem? hk
      have hc := h.cost _ hm
      have hd := h.ded _ hm
      have hb := rblockTo_le h (f ||| t) (f ||| t) i 8
      have hal := aheadK_le x.tasks t i
      show respAt x t (f ||| t) (ceilOf x.tasks (f ||| t)) i k = leastR _ _ _
      unfold respAt
      rw [block_same x.tasks (f ||| t) (f ||| t) i hft hn (by omega), terms_below x.tasks t i (by omega) hn]
      unfold rblock
      exact least_steps (fun t' ht' => good_term h t i t' ht') (by omega) (by omega) (by omega) (by omega)
  · rfl
theorem late_same {x : Img} (h : Small x) {f t : Nat} (hf : f < 4294967296) (ht : t < 4294967296) {L : List Int} (hL : OffOk L) (i : Nat) (hi : has10 (f ||| t) (i : Int) = true) :
    (lateM x (clsOf f t) (ceilOf x.tasks (f ||| t)) L (i : Int)).2 = lateR x f t L i := by
  unfold lateM lateR
  rw [win_same h hf ht hL, beh_same h hf ht, clsOf_to hf ht, hi, Bool.true_and]
  cases winR x f t L i with
  | none => rfl
  | some n =>
    cases has10 t (i : Int) <;> simp
/-- The tasks of an image's modes are tasks of it. -/
def InW (n : Nat) (s : Nat) : Prop := ∀ i, n ≤ i → s.testBit i = false
theorem bitsL_in {n s : Nat} (hn : n ≤ 32) (hw : InW n s) : bitsL s = (List.range n).filter (fun i => s.testBit i) := by
  have : ∀ j, (List.range (n + j)).filter (fun i => s.testBit i) = (List.range n).filter (fun i => s.testBit i) := by
    intro j
    induction j with
    | zero => rfl
    | succ j ih => rw [← Nat.add_assoc, List.range_succ, List.filter_append, ih]; simp [hw (n + j) (by omega)]
  have e := this (32 - n)
  rw [show n + (32 - n) = 32 by omega] at e
  exact e
theorem lateL_same {x : Img} (h : Small x) {f t : Nat} (hf : f < 4294967296) (ht : t < 4294967296) (hw : InW x.tasks.length (f ||| t)) {L : List Int} (hL : OffOk L) :
    lateL x (clsOf f t) (ceilOf x.tasks (f ||| t)) L = lateRL x f t L x.tasks.length := by
  have hn := h.n
  unfold lateL lateRL
  rw [clsOf_both hf ht, bitsL_in (by omega) hw, List.filter_filter]
  refine List.filter_congr fun i hi => ?_
  have hi' := List.mem_range.1 hi
  by_cases hbit : (f ||| t).testBit i = true
  · have e : has10 (f ||| t) (i : Int) = true := by rw [has10_nat (by omega)]; exact hbit
    rw [hbit, late_same h hf ht hL i e, Bool.and_true]
  · have e : has10 (f ||| t) (i : Int) = false := by rw [has10_nat (by omega)]; simpa using hbit
    have : lateR x f t L i = false := by unfold lateR; rw [e]; rfl
    rw [this]; simp [hbit]
theorem winR_pos {x : Img} (h : Small x) {f t : Nat} (hf : f < 4294967296) (ht : t < 4294967296) {L : List Int} (hL : OffOk L) (i : Nat) : 0 ≤ (winR x f t L i).getD 0 := by
  cases e : winR x f t L i with
  | none => simp
  | some n =>
    unfold winR at e
    split at e
    · cases hk : x.tasks[i]? with
      | none => rw [hk] at e; cases e
      | some k =>
        rw [hk] at e
        have e : leastR (k.cost + rblock x.tasks (f ||| t) (f ||| t) i) (k.ded + offR f t L i) (allM (aheadR x.tasks f t L i)) = some n := e
        have hn := h.n
        have hi := (List.getElem?_eq_some_iff.1 hk).1
        have hm := List.mem_of_getElem? hk
        have hc := h.cost _ hm
        have hd := h.ded _ hm
        have hb := rblockTo_le h (f ||| t) (f ||| t) i 8
        have ho := offW_le (c := clsOf f t) hL (i : Int)
        rw [offR_same hf ht] at ho
        have hal := aheadR_le x.tasks f t L i
        have hg : ∀ u ∈ aheadR x.tasks f t L i, GoodO u := by rw [← ahead_same hf ht x.tasks L i (by omega) hn]; exact good_aheadW h hL _
        unfold rblock at e
        have := leastR_some_o hg (by omega) (by omega) (by omega) (by omega) e
        show 0 ≤ n
        omega
    · cases e
theorem fold_filter {β : Type} (P : β → Prop) (g h : β → Nat → β) (p : Nat → Bool) : ∀ (l : List Nat) (b : β), P b → (∀ b i, i ∈ l → P b → p i = true → g b i = h b i ∧ P (h b i)) → (∀ b i, i ∈ l → P b → p i = false → h b i = b) →
    (l.filter p).foldl g b = l.foldl h b
  | [], _, _, _, _ => rfl
  | i :: l, b, hb, h1, h2 => by
    rw [List.foldl_cons]
    cases hp : p i with
    | true =>
      obtain ⟨e, hP⟩ := h1 b i (by simp) hb hp
      rw [List.filter_cons_of_pos hp, List.foldl_cons, e]
      exact fold_filter P g h p l _ hP (fun b i hi => h1 b i (by simp [hi])) (fun b i hi => h2 b i (by simp [hi]))
    | false =>
      rw [List.filter_cons_of_neg (by simp [hp]), h2 b i (by simp) hb hp]
      exact fold_filter P g h p l _ hb (fun b i hi => h1 b i (by simp [hi])) (fun b i hi => h2 b i (by simp [hi]))
theorem offR_pos {L : List Int} (hL : OffOk L) (f t : Nat) (i : Int) : 0 ≤ offR f t L i := by
  unfold offR
  split
  · exact (hL.get _).1
  · omega
theorem span_same {x : Img} (h : Small x) {f t : Nat} (hf : f < 4294967296) (ht : t < 4294967296) (hw : InW x.tasks.length (f ||| t)) {L : List Int} (hL : OffOk L) :
    spanM x (clsOf f t) (ceilOf x.tasks (f ||| t)) L = spanR x f t L := by
  have hn := h.n
  have hl := lateL_same h hf ht hw hL
  unfold spanM spanR
  rw [hl]
  by_cases hz : lateRL x f t L x.tasks.length = []
  · rw [if_pos hz, if_pos hz]
    have hno : ∀ i, i < x.tasks.length → lateR x f t L i = false := fun i hi => by
      by_cases e : lateR x f t L i = true
      · have : i ∈ lateRL x f t L x.tasks.length := List.mem_filter.2 ⟨List.mem_range.2 hi, e⟩
        rw [hz] at this; simp at this
      · simpa using e
    have key : spanIn x (clsOf f t) (ceilOf x.tasks (f ||| t)) L (bitsL (clsOf f t).both) = spanRI x f t L x.tasks.length := by
      unfold spanIn spanRI
      rw [clsOf_both hf ht, bitsL_in (by omega) hw]
      refine fold_filter (fun p => 0 ≤ p.1 ∧ 0 ≤ p.2) _ _ _ _ _ ⟨Int.le_refl _, Int.le_refl _⟩ (fun p i hi hP hbit => ?_) (fun p i hi hP hbit => ?_)
      · have hi' := List.mem_range.1 hi
        have e : has10 (f ||| t) (i : Int) = true := by rw [has10_nat (by omega)]; exact hbit
        have hlt := hno i hi'
        have hw0 := winR_pos h hf ht hL i
        have ho := offR_pos hL f t (i : Int)
        refine ⟨?_, ?_⟩
        · unfold spanStep stepR lateM
          rw [win_same h hf ht hL, beh_same h hf ht, clsOf_to hf ht, offR_same hf ht, greatM_max, greatM_max, greatM_max]
          unfold lateR at hlt
          rw [e, Bool.true_and] at hlt
          cases hwn : winR x f t L i with
          | none => rw [hwn] at hlt; simp at hlt
          | some n =>
            rw [hwn] at hw0
            have hw0 : 0 ≤ n := hw0
            cases hb : has10 t (i : Int) with
            | true => rfl
            | false =>
              have : behR x f t i = none := by unfold behR; rw [hb]; rfl
              rw [this]
              show (max p.1 n, _) = (max p.1 (max n 0), _)
              rw [show max n 0 = n by omega]
        · unfold stepR
          rw [greatM_max, greatM_max, greatM_max]
          show 0 ≤ max p.1 _ ∧ 0 ≤ max p.2 _
          have := hP.1
          have := hP.2
          omega
      · have hi' := List.mem_range.1 hi
        have e : has10 (f ||| t) (i : Int) = false := by rw [has10_nat (by omega)]; exact hbit
        have e2 : has10 t (i : Int) = false := by rw [has10_or] at e; cases h1 : has10 t (i : Int) <;> simp_all
        have hw1 : winR x f t L i = none := by unfold winR; rw [e]; rfl
        have hb1 : behR x f t i = none := by unfold behR; rw [e2]; rfl
        have ho1 : offR f t L (i : Int) = 0 := by unfold offR; rw [e2]; simp
        unfold stepR
        rw [hw1, hb1, ho1, greatM_max, greatM_max, greatM_max]
        show (max p.1 (max 0 0), max p.2 0) = p
        have := hP.1
        have := hP.2
        rw [show max p.1 (max 0 0) = p.1 by omega, show max p.2 0 = p.2 by omega]
    rw [key, greatM_max]
  · rw [if_neg hz, if_neg hz]

/-! Greater offsets. -/
/-- Each offset is no less. -/
def LeOff (L M : List Int) : Prop := ∀ k, L.getD k 0 ≤ M.getD k 0
theorem offR_mono {L M : List Int} (h : LeOff L M) (f t : Nat) (i : Int) : offR f t L i ≤ offR f t M i := by
  unfold offR
  split
  · exact h _
  · omega
theorem ahead_shrinks {x : Img} (h : Small x) {f t : Nat} {L M : List Int} (hL : OffOk L) (hM : OffOk M) (hle : LeOff L M) (hf : f < 4294967296) (ht : t < 4294967296) (v : Int) : ∀ k, k ≤ x.tasks.length → allO (aheadR x.tasks f t M k) v ≤ allO (aheadR x.tasks f t L k) v
  | 0, _ => Int.le_refl _
  | k + 1, hk => by
    have ih := ahead_shrinks h hL hM hle hf ht v k (by omega)
    rw [aheadR, aheadR, allV_append_o, allV_append_o]
    split
    · unfold termR
      rw [List.getElem?_eq_getElem (show k < x.tasks.length by omega), allV_cons_o, allV_cons_o]
      have hm := List.getElem_mem (show k < x.tasks.length by omega)
      have ho := offR_mono hle f t (k : Int)
      have hg : GoodT (base ⟨x.tasks[k].per, x.tasks[k].cost, 0, 0⟩) := ⟨h.per _ hm, h.cost _ hm, rfl, by show (0 : Int) ≤ 0 ∧ (0 : Int) ≤ 4096; omega⟩
      have hwm : workO ⟨x.tasks[k].per, x.tasks[k].cost, offR f t M (k : Int), 0⟩ v ≤ workO ⟨x.tasks[k].per, x.tasks[k].cost, offR f t L (k : Int), 0⟩ v := by
        unfold workO
        exact workV_mono hg (a := max (v - offR f t M (k : Int)) 0) (b := max (v - offR f t L (k : Int)) 0) (by omega) (by omega)
      have hE : allO [] v = 0 := rfl
      omega
    · have hE : allO [] v = 0 := rfl
      omega
theorem winR_shrinks {x : Img} (h : Small x) {f t : Nat} (hf : f < 4294967296) (ht : t < 4294967296) {L M : List Int} (hL : OffOk L) (hM : OffOk M) (hle : LeOff L M) (i _n : Nat) {m : Int} (hw : winR x f t L i = some m) : ∃ q, winR x f t M i = some q ∧ q ≤ m := by
  unfold winR at hw ⊢
  split at hw
  · rename_i hb
    rw [if_pos hb]
    cases hk : x.tasks[i]? with
    | none => rw [hk] at hw; cases hw
    | some k =>
      rw [hk] at hw
      have hw : leastR (k.cost + rblock x.tasks (f ||| t) (f ||| t) i) (k.ded + offR f t L i) (allM (aheadR x.tasks f t L i)) = some m := hw
      show ∃ q, leastR (k.cost + rblock x.tasks (f ||| t) (f ||| t) i) (k.ded + offR f t M i) (allM (aheadR x.tasks f t M i)) = some q ∧ q ≤ m
      have hn := h.n
      have hi := (List.getElem?_eq_some_iff.1 hk).1
      have hm := List.mem_of_getElem? hk
      have hc := h.cost _ hm
      have hd := h.ded _ hm
      have hbl := rblockTo_le h (f ||| t) (f ||| t) i 8
      have o1 := offW_le (c := clsOf f t) hL (i : Int)
      have o2 := offW_le (c := clsOf f t) hM (i : Int)
      rw [offR_same hf ht] at o1 o2
      have hal := aheadR_le x.tasks f t L i
      have hal2 := aheadR_le x.tasks f t M i
      have g1 : ∀ u ∈ aheadR x.tasks f t L i, GoodO u := by rw [← ahead_same hf ht x.tasks L i (by omega) hn]; exact good_aheadW h hL _
      have g2 : ∀ u ∈ aheadR x.tasks f t M i, GoodO u := by rw [← ahead_same hf ht x.tasks M i (by omega) hn]; exact good_aheadW h hM _
      have hmo := offR_mono hle f t (i : Int)
      unfold rblock at *
      exact leastR_grows_o g2 g1 (by omega) (by omega) (by omega) (Int.le_refl _) (by omega) (by omega) (by omega) (fun v _ _ => ahead_shrinks h hL hM hle hf ht v i (by omega)) hw
  · cases hw
theorem lateR_shrinks {x : Img} (h : Small x) {f t : Nat} (hf : f < 4294967296) (ht : t < 4294967296) {L M : List Int} (hL : OffOk L) (hM : OffOk M) (hle : LeOff L M) (i : Nat) (hl : lateR x f t M i = true) : lateR x f t L i = true := by
  unfold lateR at hl ⊢
  rw [Bool.and_eq_true] at hl ⊢
  refine ⟨hl.1, ?_⟩
  have h2 := hl.2
  rw [Bool.or_eq_true] at h2 ⊢
  rcases h2 with h2 | h2
  · left
    cases e : winR x f t L i with
    | none => rfl
    | some m =>
      obtain ⟨q, e2, _⟩ := winR_shrinks h hf ht hL hM hle i 0 e
      rw [e2] at h2; cases h2
  · exact .inr h2
theorem filter_le {α : Type} (p q : α → Bool) : ∀ (l : List α), (∀ a ∈ l, p a = true → q a = true) → (l.filter p).length ≤ (l.filter q).length
  | [], _ => Nat.le_refl _
  | a :: l, h => by
    have ih := filter_le p q l (fun b hb => h b (by simp [hb]))
    have ha := h a (by simp)
    rw [List.filter_cons, List.filter_cons]
    cases hp : p a <;> cases hq : q a <;> simp_all <;> omega
theorem lateRL_shrinks {x : Img} (h : Small x) {f t : Nat} (hf : f < 4294967296) (ht : t < 4294967296) {L M : List Int} (hL : OffOk L) (hM : OffOk M) (hle : LeOff L M) (n : Nat) : (lateRL x f t M n).length ≤ (lateRL x f t L n).length :=
  filter_le _ _ _ (fun i _ hi => lateR_shrinks h hf ht hL hM hle i hi)
end Go.Proofs.YteflgdnekflbbaaDoor
