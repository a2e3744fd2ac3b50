/- The step of a line: what the program's Read computes, in plain Lean. No condition. -/
import Derived.Test.YtoepkhkaifgddaaStPartW
import Derived.Test.YtoepkhkaifgddaaStKind
import Derived.Test.YtoepkhkaifgddaaStPcs
namespace Go.Proofs.Ytoepkhkaifgddaa
open Go.RowKit

theorem stopIn_load {P : Program} {ops : Array Oper} {rest : List Oper} {o : Oper} {a : Act} {Q : Exit → Act → World → Prop} {w : World} {F : Fence} {n' : Nat} (t : TypeId) (x : Operand) (_ho : o.op = .load t x) (h : Stop (wpListIn F n' P ops Q (o :: rest) a w)) : wpListIn F n' P ops Q (o :: rest) a w := h.go
theorem wpListIn_agg_w {P : Program} {ops : Array Oper} {rest : List Oper} {o : Oper} {a : Act} {Q : Exit → Act → World → Prop} {w : World} {F : Fence} {n' : Nat} (hw : Region.wanted o (yielded ops a.tmps) = true) (ty : TypeId) (x : Operand) (ho : o.op = .load ty x) {b f : Nat} (hx : a.eval x = .pointer (some ⟨b, f, none⟩)) {cs : List Value} (hA : AggOf P ty cs.length) (hc : CellsAt w b f cs)
    (h : wpListIn F n' P ops Q rest (a.put o.dst (.agg cs.toArray)) w) : wpListIn F n' P ops Q (o :: rest) a w := by
  refine wpListIn_step fun K hK => ?_
  rw [if_pos hw]
  unfold Oper.wpIn
  refine ⟨?_, ?_⟩
  · simp [Oper.about, ho]
  · rw [Oper.semAt_plain F _ _ (by rw [ho]; intro c hc'; cases hc')]
    simp only [execOp, ho, hx, Instr.loadAt, Instr.sureAddr, Sem.run_bind, Sem.run_pure, Result.andThen_ok, run_loadVar_agg hA hc]
    exact hK _ _ h
/-- A call of a Go function under a guard that says yes. -/
theorem wpListIn_call_w {P : Program} {ops : Array Oper} {rest : List Oper} {o : Oper} {a : Act} {Q : Exit → Act → World → Prop} {w : World} {F : Fence} {n' : Nat} (hF : Open F) (hw : Region.wanted o (yielded ops a.tmps) = true) {f : FuncId} {args : Array Operand} {ats : Array TypeId} {post : Ending → World → Prop}
    (ho : o.op = .call { callee := .value (.func f), args := args, argTypes := ats }) {vs : Array Value} (hv : args.map a.eval = vs) {fn : Func} (hfn : P.funcs[f]? = some fn) (hnm : (fn.name == "runtime.NumGoroutine") = false) (hbd : fn.body.isNone = false)
    (hc : Calls P f vs w post) (h : ∀ e w', post e w' → ∃ v, e = .returned v ∧ wpListIn F n' P ops Q rest (a.put o.dst v) w') : wpListIn F n' P ops Q (o :: rest) a w := by
  refine wpListIn_step fun K hK => ?_
  rw [if_pos hw]
  subst hv
  unfold Oper.wpIn
  have e : (execOp a.eval o).run P w = .ok (.enter f (args.map a.eval)) w := by
    have hf : fn.body ≠ none := by intro h; rw [h] at hbd; cases hbd
    simp [execOp, ho, go_sem, callFunc, hfn, hf]
    simp at hnm
    simp [hnm]
  refine ⟨fun f _ => hF.fn f, ?_⟩
  rw [Oper.semAt_plain F _ _ (by rw [ho]; intro c hc'; cases hc'), e, Oper.uponIn_enter]
  refine ⟨fun h => (by rw [hF.depth] at h; cases h), (hF.calls hc).mono fun e w' hp => ?_⟩
  obtain ⟨v, rfl, hrest⟩ := h e w' hp
  exact hK _ _ hrest
/-- A step being read: the step, its kind's word and parts, and how many pieces it has had. -/
structure RdS where
  s : Stp
  sh : ByteArray × ByteArray
  many : Int
def noStp : Stp := ⟨0, 0, 0, [], []⟩
def byteAt (p : ByteArray) (k : Nat) : Int := if h : k < p.size then (p[k].toNat : Int) else 0
/-- One piece more. -/
def rdStep (st : RdS) (x : Int × ByteArray) : Option RdS :=
  if x.1 = 0 then
    if kindW x.2 = 0 then none else some { s := { st.s with kind := kindW x.2 }, sh := shp (kindW x.2), many := x.1 }
  else if min x.1 (st.sh.2.size : Int) - 1 < 0 then none
  else if (st.sh.2.size : Int) < x.1 ∧ byteAt st.sh.2 (min x.1 (st.sh.2.size : Int) - 1).toNat ≠ 115 ∧ byteAt st.sh.2 (min x.1 (st.sh.2.size : Int) - 1).toNat ≠ 119 then none
  else if (partP st.s (byteAt st.sh.2 (min x.1 (st.sh.2.size : Int) - 1).toNat) x.2).2 = true then some { st with s := (partP st.s (byteAt st.sh.2 (min x.1 (st.sh.2.size : Int) - 1).toNat) x.2).1, many := x.1 }
  else none
def rdFold (st : RdS) : List (Int × ByteArray) → Option RdS
  | [] => some st
  | x :: l => (rdStep st x).bind (fun st' => rdFold st' l)
def rd0 : RdS := ⟨noStp, ({ data := #[] }, { data := #[] }), 0⟩
/-- How many pieces it must have. -/
def leastP (p : ByteArray) : Int := if 0 ≤ idxB p 115 ∨ 0 ≤ idxB p 119 then (p.size : Int) - 1 else p.size
def rdDone (st : RdS) : Stp × Bool := if st.s.kind = 0 ∨ st.many < leastP st.sh.2 then (noStp, false) else (st.s, true)
/-- The step of a line; false: it is none. -/
def readS (line : ByteArray) : Stp × Bool :=
  match rdFold rd0 (number 0 (piecesOf line)) with
  | some st => rdDone st
  | none => (noStp, false)

theorem rdFold_append : ∀ (l m : List (Int × ByteArray)) (st : RdS), rdFold st (l ++ m) = (rdFold st l).bind (fun st' => rdFold st' m)
  | [], _, _ => rfl
  | x :: l, m, st => by
    rw [List.cons_append, rdFold, rdFold]
    cases rdStep st x with
    | none => rfl
    | some st' => exact rdFold_append l m st'
theorem rdFold_snoc (l : List (Int × ByteArray)) (x : Int × ByteArray) (st : RdS) : rdFold st (l ++ [x]) = (rdFold st l).bind (fun st' => rdStep st' x) := by
  rw [rdFold_append]
  congr 1
  funext st'
  show (rdStep st' x).bind _ = _
  cases rdStep st' x <;> rfl
theorem rdFold_prefix {l m : List (Int × ByteArray)} {st : RdS} (h : l <+: m) (hl : rdFold st l = none) : rdFold st m = none := by
  obtain ⟨r, rfl⟩ := h
  rw [rdFold_append, hl]; rfl

/-- What holds of a step being read. -/
structure RdOk (st : RdS) (n : Nat) : Prop where
  sh : ∃ k, st.sh = shp k
  secs : st.s.secs.length ≤ n
  words : st.s.words.length ≤ n
theorem shp_parts (k : Int) (i : Nat) (h : i < (shp k).2.size) : partC (byteAt (shp k).2 i) := by
  unfold byteAt
  rw [dif_pos h]
  by_cases hk : 1 ≤ k ∧ k ≤ 15
  · have : k = 1 ∨ k = 2 ∨ k = 3 ∨ k = 4 ∨ k = 5 ∨ k = 6 ∨ k = 7 ∨ k = 8 ∨ k = 9 ∨ k = 10 ∨ k = 11 ∨ k = 12 ∨ k = 13 ∨ k = 14 ∨ k = 15 := by omega
    clear hk
    unfold partC
    rcases this with rfl | rfl | rfl | rfl | rfl | rfl | rfl | rfl | rfl | rfl | rfl | rfl | rfl | rfl | rfl
    all_goals
      revert h
      revert i
      decide
  · have hs : shp k = ({ data := #[] }, { data := #[] }) := by unfold shp; (repeat rw [if_neg (by omega)])
    have : (shp k).2.size = 0 := by rw [hs]; rfl
    omega
theorem partP_secs (s : Stp) (c : Int) (p : ByteArray) : (partP s c p).1.secs.length ≤ s.secs.length + 1 := by
  unfold partP
  split <;> (try split) <;> (try split) <;> (try split) <;> simp
theorem partP_words (s : Stp) (c : Int) (p : ByteArray) : (partP s c p).1.words.length ≤ s.words.length + 1 := by
  unfold partP
  split <;> (try split) <;> (try split) <;> (try split) <;> simp
theorem rdStep_ok {st st' : RdS} {n : Nat} {x : Int × ByteArray} (h : RdOk st n) (he : rdStep st x = some st') : RdOk st' (n + 1) := by
  unfold rdStep at he
  split at he
  · split at he
    · cases he
    · cases he
      exact ⟨⟨_, rfl⟩, Nat.le_succ_of_le h.secs, Nat.le_succ_of_le h.words⟩
  · split at he
    · cases he
    · split at he
      · cases he
      · split at he
        · cases he
          exact ⟨h.sh, Nat.le_trans (partP_secs _ _ _) (by have := h.secs; omega), Nat.le_trans (partP_words _ _ _) (by have := h.words; omega)⟩
        · cases he
theorem rd0_ok : RdOk rd0 0 := ⟨⟨0, by unfold shp; simp [rd0]⟩, Nat.le_refl _, Nat.le_refl _⟩
end Go.Proofs.Ytoepkhkaifgddaa
