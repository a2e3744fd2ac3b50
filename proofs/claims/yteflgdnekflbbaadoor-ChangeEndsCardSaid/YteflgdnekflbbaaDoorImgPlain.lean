/- Images as plain data: what an image is, which images may be (the document's words), when two are the same; no program in sight. -/
import Derived.Test.YteflgdnekflbbaaDoorBase
namespace Go.Proofs.YteflgdnekflbbaaDoor

structure Tsk where
  per : Int
  ded : Int
  cost : Int
  lon : List Int
  deriving DecidableEq
structure Que where
  cap : Int
  pol : Int
  deriving DecidableEq
structure Mdd where
  set : Nat
  qs : List Que
  deriving DecidableEq
structure Edg where
  frm : Int
  to : Int
  prot : Int
  offs : List Int
  mp : List Int
  deriving DecidableEq
structure Img where
  res : Int
  tasks : List Tsk
  modes : List Mdd
  edges : List Edg
  deriving DecidableEq
structure Img.Ok (x : Img) : Prop where
  lon : ∀ t ∈ x.tasks, t.lon.length = 8
  offs : ∀ e ∈ x.edges, e.offs.length = 16
  mp : ∀ e ∈ x.edges, e.mp.length = 4
  set : ∀ m ∈ x.modes, m.set < 4294967296

/-- Is n from a to b? -/
def inR (n a b : Int) : Bool := decide (a ≤ n ∧ n ≤ b)
def lonOk (cost res : Int) : Nat → List Int → Bool
  | _, [] => true
  | r, n :: l => inR n 0 (if res ≤ (r : Int) then 0 else cost) && lonOk cost res (r + 1) l
def tskOk (t : Tsk) (res : Int) : Bool := inR t.per 1 4096 && inR t.ded 1 t.per && inR t.cost 1 t.ded && lonOk t.cost res 0 t.lon
def queOk (q : Que) : Bool := inR q.cap 1 16 && inR q.pol 1 3
def quesOk (l : List Que) : Bool := decide (l.length ≤ 4) && l.all queOk
/-- Each old queue becomes at most one new one, each new one is of at most one. -/
def mapsOk (frm to : Nat) : Nat → List Int → List Int → Bool
  | _, _, [] => true
  | k, seen, n :: l => inR n 0 to && (n == 0 || (decide (k < frm) && !seen.contains n)) && mapsOk frm to (k + 1) (if n = 0 then seen else n :: seen) l
def offsOk (prot : Int) (a b : Nat) : Nat → List Int → Bool
  | _, [] => true
  | k, n :: l => inR n 0 16384 && (n == 0 || (decide (prot = 3) && b.testBit k && !a.testBit k)) && offsOk prot a b (k + 1) l
def edgOk (x : Img) (i : Nat) (e : Edg) : Bool :=
  inR e.frm 0 (x.modes.length - 1) && inR e.to 0 (x.modes.length - 1) && decide (e.frm ≠ e.to) && inR e.prot 1 3 && (x.edges.take i).all (fun f => !(f.frm == e.frm && f.to == e.to)) &&
    mapsOk (x.modes.getD e.frm.toNat ⟨0, []⟩).qs.length (x.modes.getD e.to.toNat ⟨0, []⟩).qs.length 0 [] e.mp &&
    offsOk e.prot (x.modes.getD e.frm.toNat ⟨0, []⟩).set (x.modes.getD e.to.toNat ⟨0, []⟩).set 0 e.offs
/-- The first of a row that fails, behind i others. -/
def firstBad {α : Type} (ok : Nat → α → Bool) : Nat → List α → Option Nat
  | _, [] => none
  | i, a :: l => if ok i a then firstBad ok (i + 1) l else some i
/-- The set of all tasks. -/
def allSet (n : Nat) : Nat := 2 ^ n - 1
def mddErr (all : Nat) (m : Mdd) : Option Int := if m.set ||| all = all then (if quesOk m.qs then none else some 104) else some 101
def firstMode (all : Nat) : Nat → List Mdd → Option (Nat × Int)
  | _, [] => none
  | i, m :: l => match mddErr all m with | none => firstMode all (i + 1) l | some e => some (i, e)
/-- Where, and why not. -/
def chkImg (x : Img) : Int × Int :=
  if inR x.res 0 8 = false then (0, 103)
  else if inR x.tasks.length 1 16 = false then (x.tasks.length, 100)
  else match firstBad (fun _ t => tskOk t x.res) 0 x.tasks with
    | some i => (i, 100)
    | none =>
      if inR x.modes.length 1 8 = false then (x.modes.length, 101)
      else match firstMode (allSet x.tasks.length) 0 x.modes with
        | some (i, e) => (i, e)
        | none =>
          if x.edges.length > 24 then (x.edges.length, 102)
          else match firstBad (fun i e => edgOk x i e) 0 x.edges with
            | some i => (i, 102)
            | none => (0, 0)
/-- More than is asked of any image. -/
def greatImg (x : Img) : Bool := decide (40 < x.tasks.length) || decide (20 < x.modes.length) || decide (60 < x.edges.length) || x.modes.any (fun m => decide (20 < m.qs.length))

section
variable {α : Type} (ok : Nat → α → Bool)
theorem firstBad_append : ∀ (l m : List α) (i : Nat), firstBad ok i (l ++ m) = match firstBad ok i l with | some j => some j | none => firstBad ok (i + l.length) m
  | [], m, i => rfl
  | a :: l, m, i => by
    rw [List.cons_append, firstBad, firstBad]
    split
    · rw [firstBad_append l m (i + 1), List.length_cons, show i + 1 + l.length = i + (l.length + 1) by omega]
    · rfl
theorem firstBad_step {l : List α} {k : Nat} (hk : k < l.length) (h : firstBad ok 0 (l.take k) = none) (ho : ok k l[k] = true) : firstBad ok 0 (l.take (k + 1)) = none := by
  rw [List.take_succ_eq_append_getElem hk, firstBad_append, h]
  have e : 0 + (l.take k).length = k := by rw [List.length_take]; omega
  simp only [e, firstBad, ho, if_true]
theorem firstBad_at {l : List α} {k : Nat} (hk : k < l.length) (h : firstBad ok 0 (l.take k) = none) (ho : ok k l[k] = false) : firstBad ok 0 l = some k := by
  have e : l = l.take k ++ l.drop k := (List.take_append_drop k l).symm
  rw [e, firstBad_append, h, List.drop_eq_getElem_cons hk]
  have e : 0 + (l.take k).length = k := by rw [List.length_take]; omega
  simp only [e, firstBad, ho]
  rfl
theorem firstBad_all {l : List α} {k : Nat} (hk : l.length ≤ k) (h : firstBad ok 0 (l.take k) = none) : firstBad ok 0 l = none := by rwa [List.take_of_length_le hk] at h
end
/-- The program's test of one resource is the document's. -/
theorem lon_step (n cost res : Int) (r : Nat) (hc : 1 ≤ cost) : inR n 0 (if res ≤ (r : Int) then 0 else cost) = !(decide (n < 0) || decide (cost < n) || (decide (res ≤ (r : Int)) && decide (n ≠ 0))) := by
  unfold inR
  rw [Bool.eq_iff_iff]
  by_cases h : res ≤ (r : Int)
  · simp [h]; omega
  · simp [h]
theorem lonOk_append (cost res : Int) : ∀ (l m : List Int) (r : Nat), lonOk cost res r (l ++ m) = (lonOk cost res r l && lonOk cost res (r + l.length) m)
  | [], m, r => by simp [lonOk]
  | n :: l, m, r => by
    rw [List.cons_append, lonOk, lonOk, lonOk_append cost res l m (r + 1), Bool.and_assoc, List.length_cons, show r + 1 + l.length = r + (l.length + 1) by omega]
theorem allSet_succ (k : Nat) : allSet (k + 1) = allSet k + 2 ^ k := by
  unfold allSet
  have := Nat.two_pow_pos k
  rw [Nat.pow_succ]
  omega
theorem allSet_testBit (k i : Nat) : (allSet k).testBit i = decide (i < k) := by unfold allSet; exact Nat.testBit_two_pow_sub_one k i
theorem allSet_or (k : Nat) : allSet k ||| 2 ^ k = allSet (k + 1) := by
  apply Nat.eq_of_testBit_eq
  intro i
  rw [Nat.testBit_or, allSet_testBit, allSet_testBit, Nat.testBit_two_pow]
  by_cases h : k = i
  · subst h; simp
  · simp [h]; omega
theorem allSet_lt {k : Nat} (h : k ≤ 32) : allSet k < 4294967296 := by
  have h1 : 2 ^ k ≤ 2 ^ 32 := Nat.pow_le_pow_right (by decide) h
  have h2 := Nat.two_pow_pos k
  unfold allSet
  omega
theorem mapsOk_append (frm to : Nat) : ∀ (l m : List Int) (k : Nat) (seen : List Int), mapsOk frm to k seen (l ++ m) = (mapsOk frm to k seen l && mapsOk frm to (k + l.length) (l.foldl (fun s n => if n = 0 then s else n :: s) seen) m)
  | [], m, k, seen => by simp [mapsOk]
  | n :: l, m, k, seen => by
    rw [List.cons_append, mapsOk, mapsOk, mapsOk_append frm to l m (k + 1), List.foldl_cons, List.length_cons, show k + 1 + l.length = k + (l.length + 1) by omega]
    simp only [Bool.and_assoc]
theorem offsOk_append (prot : Int) (a b : Nat) : ∀ (l m : List Int) (k : Nat), offsOk prot a b k (l ++ m) = (offsOk prot a b k l && offsOk prot a b (k + l.length) m)
  | [], m, k => by simp [offsOk]
  | n :: l, m, k => by
    rw [List.cons_append, offsOk, offsOk, offsOk_append prot a b l m (k + 1), List.length_cons, show k + 1 + l.length = k + (l.length + 1) by omega]
    simp only [Bool.and_assoc]
end Go.Proofs.YteflgdnekflbbaaDoor
