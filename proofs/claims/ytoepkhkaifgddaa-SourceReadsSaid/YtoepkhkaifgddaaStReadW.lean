/- The step of a line: what the program's Read computes, in plain Lean. No condition. script.Read: the step of a line; walked. Condition: the line is no longer than a million bytes. -/
import Derived.Test.YtoepkhkaifgddaaStPartW
import Derived.Test.YtoepkhkaifgddaaStShape
import Derived.Test.YtoepkhkaifgddaaStPcs
import Derived.WalkMore
namespace Go.Proofs.Ytoepkhkaifgddaa
open Go.RowKit

theorem stopIn_load {P : Program} {ops : Array Oper} {rest : List Oper} {o : Oper} {a : Act} {Q : Exit → Act → World → Prop} {w : World} {F : Fence} {n' : Nat} (t : TypeId) (x : Operand) (_ho : o.op = .load t x) (h : Stop (wpListIn F n' P ops Q (o :: rest) a w)) : wpListIn F n' P ops Q (o :: rest) a w := h.go
theorem wpListIn_agg_w {P : Program} {ops : Array Oper} {rest : List Oper} {o : Oper} {a : Act} {Q : Exit → Act → World → Prop} {w : World} {F : Fence} {n' : Nat} (hw : Region.wanted o (yielded ops a.tmps) = true) (ty : TypeId) (x : Operand) (ho : o.op = .load ty x) {b f : Nat} (hx : a.eval x = .pointer (some ⟨b, f, none⟩)) {cs : List Value} (hA : AggOf P ty cs.length) (hc : CellsAt w b f cs)
    (h : wpListIn F n' P ops Q rest (a.put o.dst (.agg cs.toArray)) w) : wpListIn F n' P ops Q (o :: rest) a w := by
  refine wpListIn_step fun K hK => ?_
  rw [if_pos hw]
  unfold Oper.wpIn
  refine ⟨?_, ?_⟩
  · simp [Oper.about, ho]
  · rw [Oper.semAt_plain F _ _ (by rw [ho]; intro c hc'; cases hc')]
    simp only [execOp, ho, hx, Instr.loadAt, Instr.sureAddr, Sem.run_bind, Sem.run_pure, Result.andThen_ok, run_loadVar_agg hA hc]
    exact hK _ _ h
/-- A call of a Go function under a guard that says yes. -/
theorem wpListIn_call_w {P : Program} {ops : Array Oper} {rest : List Oper} {o : Oper} {a : Act} {Q : Exit → Act → World → Prop} {w : World} {F : Fence} {n' : Nat} (hF : Open F) (hw : Region.wanted o (yielded ops a.tmps) = true) {f : FuncId} {args : Array Operand} {ats : Array TypeId} {post : Ending → World → Prop}
    (ho : o.op = .call { callee := .value (.func f), args := args, argTypes := ats }) {vs : Array Value} (hv : args.map a.eval = vs) {fn : Func} (hfn : P.funcs[f]? = some fn) (hnm : (fn.name == "runtime.NumGoroutine") = false) (hbd : fn.body.isNone = false)
    (hc : Calls P f vs w post) (h : ∀ e w', post e w' → ∃ v, e = .returned v ∧ wpListIn F n' P ops Q rest (a.put o.dst v) w') : wpListIn F n' P ops Q (o :: rest) a w := by
  refine wpListIn_step fun K hK => ?_
  rw [if_pos hw]
  subst hv
  unfold Oper.wpIn
  have e : (execOp a.eval o).run P w = .ok (.enter f (args.map a.eval)) w := by
    have hf : fn.body ≠ none := by intro h; rw [h] at hbd; cases hbd
    simp [execOp, ho, go_sem, callFunc, hfn, hf]
    simp at hnm
    simp [hnm]
  refine ⟨fun f _ => hF.fn f, ?_⟩
  rw [Oper.semAt_plain F _ _ (by rw [ho]; intro c hc'; cases hc'), e, Oper.uponIn_enter]
  refine ⟨fun h => (by rw [hF.depth] at h; cases h), (hF.calls hc).mono fun e w' hp => ?_⟩
  obtain ⟨v, rfl, hrest⟩ := h e w' hp
  exact hK _ _ hrest
/-- A step being read: the step, its kind's word and parts, and how many pieces it has had. -/
structure RdS where
  s : Stp
  sh : ByteArray × ByteArray
  many : Int
def noStp : Stp := ⟨0, 0, 0, [], []⟩
def byteAt (p : ByteArray) (k : Nat) : Int := if h : k < p.size then (p[k].toNat : Int) else 0
/-- One piece more. -/
def rdStep (st : RdS) (x : Int × ByteArray) : Option RdS :=
  if x.1 = 0 then
    if kindW x.2 = 0 then none else some { s := { st.s with kind := kindW x.2 }, sh := shp (kindW x.2), many := x.1 }
  else if min x.1 (st.sh.2.size : Int) - 1 < 0 then none
  else if (st.sh.2.size : Int) < x.1 ∧ byteAt st.sh.2 (min x.1 (st.sh.2.size : Int) - 1).toNat ≠ 115 ∧ byteAt st.sh.2 (min x.1 (st.sh.2.size : Int) - 1).toNat ≠ 119 then none
  else if (partP st.s (byteAt st.sh.2 (min x.1 (st.sh.2.size : Int) - 1).toNat) x.2).2 = true then some { st with s := (partP st.s (byteAt st.sh.2 (min x.1 (st.sh.2.size : Int) - 1).toNat) x.2).1, many := x.1 }
  else none
def rdFold (st : RdS) : List (Int × ByteArray) → Option RdS
  | [] => some st
  | x :: l => (rdStep st x).bind (fun st' => rdFold st' l)
def rd0 : RdS := ⟨noStp, ({ data := #[] }, { data := #[] }), 0⟩
/-- How many pieces it must have. -/
def leastP (p : ByteArray) : Int := if 0 ≤ idxB p 115 ∨ 0 ≤ idxB p 119 then (p.size : Int) - 1 else p.size
def rdDone (st : RdS) : Stp × Bool := if st.s.kind = 0 ∨ st.many < leastP st.sh.2 then (noStp, false) else (st.s, true)
/-- The step of a line; false: it is none. -/
def readS (line : ByteArray) : Stp × Bool :=
  match rdFold rd0 (number 0 (piecesOf line)) with
  | some st => rdDone st
  | none => (noStp, false)

theorem rdFold_append : ∀ (l m : List (Int × ByteArray)) (st : RdS), rdFold st (l ++ m) = (rdFold st l).bind (fun st' => rdFold st' m)
  | [], _, _ => rfl
  | x :: l, m, st => by
    rw [List.cons_append, rdFold, rdFold]
    cases rdStep st x with
    | none => rfl
    | some st' => exact rdFold_append l m st'
theorem rdFold_snoc (l : List (Int × ByteArray)) (x : Int × ByteArray) (st : RdS) : rdFold st (l ++ [x]) = (rdFold st l).bind (fun st' => rdStep st' x) := by
  rw [rdFold_append]
  congr 1
  funext st'
  show (rdStep st' x).bind _ = _
  cases rdStep st' x <;> rfl
theorem rdFold_prefix {l m : List (Int × ByteArray)} {st : RdS} (h : l <+: m) (hl : rdFold st l = none) : rdFold st m = none := by
  obtain ⟨r, rfl⟩ := h
  rw [rdFold_append, hl]; rfl

/-- What holds of a step being read. -/
structure RdOk (st : RdS) (n : Nat) : Prop where
  sh : ∃ k, st.sh = shp k
  secs : st.s.secs.length ≤ n
  words : st.s.words.length ≤ n
theorem shp_parts (k : Int) (i : Nat) (h : i < (shp k).2.size) : partC (byteAt (shp k).2 i) := by
  unfold byteAt
  rw [dif_pos h]
  by_cases hk : 1 ≤ k ∧ k ≤ 15
  · have : k = 1 ∨ k = 2 ∨ k = 3 ∨ k = 4 ∨ k = 5 ∨ k = 6 ∨ k = 7 ∨ k = 8 ∨ k = 9 ∨ k = 10 ∨ k = 11 ∨ k = 12 ∨ k = 13 ∨ k = 14 ∨ k = 15 := by omega
    clear hk
    unfold partC
    rcases this with rfl | rfl | rfl | rfl | rfl | rfl | rfl | rfl | rfl | rfl | rfl | rfl | rfl | rfl | rfl
    all_goals
      revert h
      revert i
      decide
  · have hs : shp k = ({ data := #[] }, { data := #[] }) := by unfold shp; (repeat rw [if_neg (by omega)])
    have : (shp k).2.size = 0 := by rw [hs]; rfl
    omega
theorem partP_secs (s : Stp) (c : Int) (p : ByteArray) : (partP s c p).1.secs.length ≤ s.secs.length + 1 := by
  unfold partP
  split <;> (try split) <;> (try split) <;> (try split) <;> simp
theorem partP_words (s : Stp) (c : Int) (p : ByteArray) : (partP s c p).1.words.length ≤ s.words.length + 1 := by
  unfold partP
  split <;> (try split) <;> (try split) <;> (try split) <;> simp
theorem rdStep_ok {st st' : RdS} {n : Nat} {x : Int × ByteArray} (h : RdOk st n) (he : rdStep st x = some st') : RdOk st' (n + 1) := by
  unfold rdStep at he
  split at he
  · split at he
    · cases he
    · cases he
      exact ⟨⟨_, rfl⟩, Nat.le_succ_of_le h.secs, Nat.le_succ_of_le h.words⟩
  · split at he
    · cases he
    · split at he
      · cases he
      · split at he
        · cases he
          exact ⟨h.sh, Nat.le_trans (partP_secs _ _ _) (by have := h.secs; omega), Nat.le_trans (partP_words _ _ _) (by have := h.words; omega)⟩
        · cases he
theorem rd0_ok : RdOk rd0 0 := ⟨⟨0, by unfold shp; simp [rd0]⟩, Nat.le_refl _, Nat.le_refl _⟩
end Go.Proofs.Ytoepkhkaifgddaa

namespace Go.Proofs.Ytoepkhkaifgddaa
open Go.RowKit
attribute [local go_sem] Oper.semAt_some

theorem KeepsFrom.mono {B B' : Nat} {W W' : World} (h : KeepsFrom B W W') (hb : B ≤ B') : KeepsFrom B' W W' := ⟨h.size, fun k o hk ho hc => h.same k o (by omega) ho hc⟩
def zStep : List Value := [.int .i64 0, .int .i64 0, .int .i64 0, .slice none 0 0, .slice none 0 0]
/-- The call's boxes in memory, from block g on. -/
structure RdAt (line : ByteArray) (w W : World) (st : RdS) (vs vw : Value) : Prop where
  res : Blk W w.heap.size 45 zStep.toArray
  ok : Blk W (w.heap.size + 1) 4 #[.bool false]
  own : OwnStp W (w.heap.size + 2) (w.heap.size + 2) st.s vs vw
  sh : Blk W (w.heap.size + 3) 95 #[.string st.sh.1, .string st.sh.2]
  many : Blk W (w.heap.size + 4) 3 #[.int .i64 st.many]
  box : Blk W (w.heap.size + 5) 9 #[.string line]
  keep : Keep [] w W
theorem RdAt.keep0 {line : ByteArray} {w W W' : World} {st : RdS} {vs vw : Value} (h : RdAt line w W st vs vw) (k : Keep [] W W') : RdAt line w W' st vs vw :=
  ⟨h.res.keep0 k, h.ok.keep0 k, h.own.keep0 k, h.sh.keep0 k, h.many.keep0 k, h.box.keep0 k, h.keep.then k⟩
def RdInv (line : ByteArray) (w : World) (pre : List NumStr) (W : World) : Prop := ∃ st vs vw, rdFold rd0 pre = some st ∧ RdOk st pre.length ∧ RdAt line w W st vs vw
theorem zStep_one : ∀ v, v ∈ zStep → v.oneCell' = true := by intro y hy; simp [zStep] at hy; rcases hy with rfl | rfl | rfl <;> rfl
/-- One number of the step is written. -/
theorem RdAt.setKind {line : ByteArray} {w W : World} {st : RdS} {vs vw : Value} (h : RdAt line w W st vs vw) (k : Int) : RdAt line w (W.setCell ⟨w.heap.size + 2, 0, none⟩ (.int .i64 k)) { st with s := { st.s with kind := k } } vs vw := by
  have kk := keep_set W (w.heap.size + 2) 0 (.int .i64 k)
  exact ⟨h.res.keep kk (by simp), h.ok.keep kk (by simp), h.own.num 0 _ _ rfl rfl rfl, h.sh.keep kk (by simp), h.many.keep kk (by simp), h.box.keep kk (by simp), h.keep.trans kk (fun y hy hlt => by simp at hy; omega)⟩
theorem RdAt.setMany {line : ByteArray} {w W : World} {st : RdS} {vs vw : Value} (h : RdAt line w W st vs vw) (k : Int) : RdAt line w (W.setCell ⟨w.heap.size + 4, 0, none⟩ (.int .i64 k)) { st with many := k } vs vw := by
  have kk := keep_set W (w.heap.size + 4) 0 (.int .i64 k)
  have n1 : ∀ g, vs.ownBlock = some g → g ∉ [w.heap.size + 4] := fun g hg hm => unown_ne h.own.secs h.many (by decide) (by simp at hm; rw [hg, hm])
  have n2 : ∀ g, vw.ownBlock = some g → g ∉ [w.heap.size + 4] := fun g hg hm => unown_ne h.own.words h.many (by decide) (by simp at hm; rw [hg, hm])
  exact ⟨h.res.keep kk (by simp), h.ok.keep kk (by simp), ⟨h.own.blk.keep kk (by simp), own_keep h.own.secs kk n1, own_keep h.own.words kk n2⟩, h.sh.keep kk (by simp), h.many.set_ 0 _, h.box.keep kk (by simp), h.keep.trans kk (fun y hy hlt => by simp at hy; omega)⟩
theorem RdAt.setSh {line : ByteArray} {w W W' : World} {st : RdS} {vs vw : Value} (h : RdAt line w W st vs vw) (kk : Keep [w.heap.size + 3] W W') (sh : ByteArray × ByteArray) (hb : Blk W' (w.heap.size + 3) 95 #[.string sh.1, .string sh.2]) : RdAt line w W' { st with sh := sh } vs vw := by
  have n1 : ∀ g, vs.ownBlock = some g → g ∉ [w.heap.size + 3] := fun g hg hm => unown_ne h.own.secs h.sh (by decide) (by simp at hm; rw [hg, hm])
  have n2 : ∀ g, vw.ownBlock = some g → g ∉ [w.heap.size + 3] := fun g hg hm => unown_ne h.own.words h.sh (by decide) (by simp at hm; rw [hg, hm])
  exact ⟨h.res.keep kk (by simp), h.ok.keep kk (by simp), ⟨h.own.blk.keep kk (by simp), own_keep h.own.secs kk n1, own_keep h.own.words kk n2⟩, hb, h.many.keep kk (by simp), h.box.keep kk (by simp), h.keep.trans kk (fun y hy hlt => by simp at hy; omega)⟩
/-- A part is read. -/
theorem RdAt.part {line : ByteArray} {w W W' : World} {st : RdS} {vs vw : Value} (h : RdAt line w W st vs vw) (s' : Stp) (hO : OwnSt W' (w.heap.size + 2) (w.heap.size + 2) s') (k : KpU [45, 85, 77] (w.heap.size + 2) (w.heap.size + 2) W W') : ∃ vs' vw', RdAt line w W' { st with s := s' } vs' vw' := by
  obtain ⟨vs', vw', hO⟩ := hO
  have hz := h.keep.size
  exact ⟨vs', vw', (k.below.block _ (by omega)).trans h.res, (k.below.block _ (by omega)).trans h.ok, hO, k.blk h.sh (by decide), k.blk h.many (by decide), k.blk h.box (by decide),
    ⟨k.below.os.trans h.keep.os, k.below.tape.trans h.keep.tape, k.below.output.trans h.keep.output, by have := k.size; omega, fun x hx _ => (k.below.block x (by omega)).trans (h.keep.block x hx (by simp))⟩⟩
/-- What a round keeps. -/
def RdKp (w : World) (B : Nat) (W W' : World) : Prop := KeepsFrom B W W' ∧ Same [w.heap.size + 5] W W'
theorem rdKp_of {w W W' : World} {B : Nat} {F : List Nat} (hB : w.heap.size + 6 ≤ B) (hs : w.heap.size + 5 < W.heap.size) (k : Keep F W W') (hF : ∀ y, y ∈ F → y < w.heap.size + 5) : RdKp w B W W' :=
  ⟨k.from (fun y hy => .inl (by have := hF y hy; omega)), Same.keep k (fun y hy => by simp at hy; subst hy; exact ⟨hs, fun hm => by have := hF _ hm; omega⟩)⟩
theorem RdKp.trans {w A C D : World} {B : Nat} (h : RdKp w B A C) (k : RdKp w B C D) : RdKp w B A D := ⟨h.1.trans k.1, h.2.trans k.2⟩
theorem scan_size (s : ByteArray) : ∀ i p, p ∈ (scan s i).1 → p.size ≤ s.size
  | 0, _, h => by simp [scan] at h
  | i + 1, p, h => by
    rw [scan] at h
    split at h
    · split at h
      · rcases List.mem_append.1 h with h | h
        · exact scan_size s i p h
        · simp at h
          subst h
          simp [ByteArray.size_extract]
          omega
      · exact scan_size s i p h
    · split at h
      · exact scan_size s i p h
      · exact scan_size s i p h
theorem piece_size {s : ByteArray} {pre : List NumStr} {x : NumStr} (h : pre ++ [x] <+: number 0 (piecesOf s)) : x.2.size ≤ s.size := by
  refine scan_size s (s.size + 1) x.2 ?_
  show x.2 ∈ piecesOf s
  rw [← number_snd (piecesOf s) 0]
  exact List.mem_map.2 ⟨x, h.subset (by simp), rfl⟩
structure RdX (w W : World) (pre : List NumStr) : Prop where
  none_ : rdFold rd0 pre = none
  res : Blk W w.heap.size 45 zStep.toArray
  ok : Blk W (w.heap.size + 1) 4 #[.bool false]
  keep : Keep [] w W
def ReadPost (w : World) (r : Stp × Bool) (e : Ending) (w' : World) : Prop :=
  ∃ vs vw, e = .returned (.tuple #[.agg (ownCells r.1 vs vw).toArray, .bool r.2]) ∧ w'.ownsRow w.heap.size 85 3 vs r.1.secs.length (r.1.secs.flatMap sctCells) ∧ w'.ownsRow w.heap.size 77 1 vw r.1.words.length (u32s r.1.words) ∧ Keep [] w w'

theorem shp_size (k : Int) : (shp k).2.size ≤ 3 := by
  by_cases hk : 1 ≤ k ∧ k ≤ 15
  · have : k = 1 ∨ k = 2 ∨ k = 3 ∨ k = 4 ∨ k = 5 ∨ k = 6 ∨ k = 7 ∨ k = 8 ∨ k = 9 ∨ k = 10 ∨ k = 11 ∨ k = 12 ∨ k = 13 ∨ k = 14 ∨ k = 15 := by omega
    clear hk
    rcases this with rfl | rfl | rfl | rfl | rfl | rfl | rfl | rfl | rfl | rfl | rfl | rfl | rfl | rfl | rfl
    all_goals decide
  · have hs : shp k = ({ data := #[] }, { data := #[] }) := by unfold shp; (repeat rw [if_neg (by omega)])
    rw [hs]
    decide
theorem st_results_cc {P : Program} {w : World} {fn : Func} {p q : Tmp} {ty tb : TypeId} (h : fn.results = #[.cell p ty, .cell q tb]) (tmps : Array Value) {g t g2 : Nat} {vs : List Value} {v : Value} (hp : tmps.getD p undef = .pointer (some ⟨g, 0, none⟩)) (hq : tmps.getD q undef = .pointer (some ⟨g2, 0, none⟩))
    (hb : Blk w g t vs.toArray) (hA : AggOf P ty vs.length) (h2 : (loadVar tb ⟨g2, 0, none⟩).run P w = .ok v w) : (results fn tmps).run P w = .ok (.tuple #[.agg vs.toArray, v]) w := by
  have hp' : tmps[p]?.getD undef = .pointer (some ⟨g, 0, none⟩) := by simpa using hp
  have hq' : tmps[q]?.getD undef = .pointer (some ⟨g2, 0, none⟩) := by simpa using hq
  have hc : CellsAt w g 0 vs := fun j u hu => by rw [Nat.zero_add, hb.cell]; simpa using hu
  simp [results, h, hp', hq', asAddr, run_loadVar_agg hA hc, h2]
theorem wpIn_scope_wide {n : Nat} {P : Program} {c : Code} {Q : Exit → Act → World → Prop} {a : Act} {w : World} (h : c.wpIn Fence.wide n P (Exit.noGoto Q) a w) : (Code.scope c).wpIn Fence.wide n P Q a w :=
  wpIn_wide.2 (wp_scope_straight (wpIn_wide.1 h))

set_option maxRecDepth 100000 in
set_option maxHeartbeats 16000000 in
theorem sread_any (s : ByteArray) (w : World) (hs : s.size ≤ 1000000) :
    Calls Try.prog 22 #[.string s] w (ReadPost w (readS s)) := by
  rw [← callsIn_wide (n := 9)]
  refine callsIn_of_wp_marks Try.func22 rfl trivial ?_ rfl
  simp only [Try.ntmps22, List.size_toArray, List.length_cons, List.length_nil, Nat.reduceAdd, Nat.reduceSub, Array.replicate_succ, Array.replicate_zero, List.push_toArray, List.append_toArray, List.nil_append, List.cons_append]
  gi_wp2_with (first
    | (refine ⟨trivial, ?_⟩; gi_at_call 32; refine (callsIn_wide.2 (pieces_any s _)).mono ?_; rintro e w' ⟨rfl, rfl⟩)
    | (refine wpIn_scope_wide ?_)
    | (refine wpIn_label ?_))
  obtain ⟨W0, hW0⟩ : ∃ W0, (((((w.alloc (.cells #[.int .i64 0, .int .i64 0, .int .i64 0, .slice none 0 0, .slice none 0 0] 45)).alloc (.cells #[.bool false] 4)).alloc (.cells #[.int .i64 0, .int .i64 0, .int .i64 0, .slice none 0 0, .slice none 0 0] 45)).alloc (.cells #[.string { data := #[] }, .string { data := #[] }] 95)).alloc (.cells #[.int .i64 0] 3)).alloc (.cells #[.string s] 9) = W0 := ⟨_, rfl⟩
  have hsz : W0.heap.size = w.heap.size + 6 := by rw [← hW0]; simp
  have b0 : Blk W0 w.heap.size 45 zStep.toArray := by rw [← hW0]; exact (((((Blk.new _ _ _).alloc _).alloc _).alloc _).alloc _).alloc _
  have b1 : Blk W0 (w.heap.size + 1) 4 #[.bool false] := by
    rw [← hW0]; have := Blk.new (w.alloc (.cells #[.int .i64 0, .int .i64 0, .int .i64 0, .slice none 0 0, .slice none 0 0] 45)) 4 #[.bool false]; rw [World.size_alloc] at this; exact (((this.alloc _).alloc _).alloc _).alloc _
  have b2 : Blk W0 (w.heap.size + 2) 45 zStep.toArray := by
    rw [← hW0]; have := Blk.new ((w.alloc (.cells #[.int .i64 0, .int .i64 0, .int .i64 0, .slice none 0 0, .slice none 0 0] 45)).alloc (.cells #[.bool false] 4)) 45 zStep.toArray; rw [World.size_alloc, World.size_alloc] at this; exact ((this.alloc _).alloc _).alloc _
  have b3 : Blk W0 (w.heap.size + 3) 95 #[.string { data := #[] }, .string { data := #[] }] := by
    rw [← hW0]; have := Blk.new (((w.alloc (.cells #[.int .i64 0, .int .i64 0, .int .i64 0, .slice none 0 0, .slice none 0 0] 45)).alloc (.cells #[.bool false] 4)).alloc (.cells #[.int .i64 0, .int .i64 0, .int .i64 0, .slice none 0 0, .slice none 0 0] 45)) 95 #[.string { data := #[] }, .string { data := #[] }]; rw [World.size_alloc, World.size_alloc, World.size_alloc] at this; exact (this.alloc _).alloc _
  have b4 : Blk W0 (w.heap.size + 4) 3 #[.int .i64 0] := by
    rw [← hW0]; have := Blk.new ((((w.alloc (.cells #[.int .i64 0, .int .i64 0, .int .i64 0, .slice none 0 0, .slice none 0 0] 45)).alloc (.cells #[.bool false] 4)).alloc (.cells #[.int .i64 0, .int .i64 0, .int .i64 0, .slice none 0 0, .slice none 0 0] 45)).alloc (.cells #[.string { data := #[] }, .string { data := #[] }] 95)) 3 #[.int .i64 0]; rw [World.size_alloc, World.size_alloc, World.size_alloc, World.size_alloc] at this; exact this.alloc _
  have b5 : Blk W0 (w.heap.size + 5) 9 #[.string s] := by
    rw [← hW0]; have := Blk.new (((((w.alloc (.cells #[.int .i64 0, .int .i64 0, .int .i64 0, .slice none 0 0, .slice none 0 0] 45)).alloc (.cells #[.bool false] 4)).alloc (.cells #[.int .i64 0, .int .i64 0, .int .i64 0, .slice none 0 0, .slice none 0 0] 45)).alloc (.cells #[.string { data := #[] }, .string { data := #[] }] 95)).alloc (.cells #[.int .i64 0] 3)) 9 #[.string s]; rw [World.size_alloc, World.size_alloc, World.size_alloc, World.size_alloc, World.size_alloc] at this; exact this
  have K0 : Keep [] w W0 := by rw [← hW0]; exact ((((((Keep.refl _ w).alloc _).alloc _).alloc _).alloc _).alloc _).alloc _
  simp only [Nat.add_assoc, Nat.reduceAdd]
  simp only [hW0]
  clear hW0
  have hlen : (piecesOf s).length ≤ s.size + 1 := (scan_le s (s.size + 1)).1
  refine wpIn_rangeT (F := Fence.wide) (n := 9) (ps := #[15, 16]) (Lo := LoN) rfl (by omega) (gf := 66) (lb := #[.pointer (some ⟨w.heap.size + 5, 0, none⟩)]) rfl trivial (enters_of Try.func66 (by kernel_rfl) rfl)
    ((pieces1_seq _ s (w.heap.size + 5) W0 (by omega) (b5.cell 0) (by omega)).toT LoN) Same.trans (fun _ _ _ _ _ => same_putO (by simp; omega) _) (Below.refl _ _) (fun _ => rfl)
    (RdInv s w) (fun c pre W => c = .ret ∧ RdX w W pre)
    ?hI ?hIx ⟨rd0, _, _, rfl, rd0_ok, b0, b1, ⟨b2, World.ownsRow_nil _ _ _ _, World.ownsRow_nil _ _ _ _⟩, b3, b4, b5, K0⟩
    (fun x => { tmps := #[.string s, undef, .pointer (some ⟨w.heap.size, 0, none⟩), .pointer (some ⟨w.heap.size + 1, 0, none⟩), .pointer (some ⟨w.heap.size + 2, 0, none⟩), .pointer (some ⟨w.heap.size + 3, 0, none⟩), .pointer (some ⟨w.heap.size + 4, 0, none⟩), .int .i64 x.1, .string x.2, undef, undef, .agg #[.int .i64 0, .int .i64 0, .int .i64 0, .slice none 0 0, .slice none 0 0], .agg #[.string { data := #[] }, .string { data := #[] }], .string s, .func (.func 66) #[] #[.pointer (some ⟨w.heap.size + 5, 0, none⟩)], .int .i64 x.1, .string x.2, undef, undef, undef, undef, undef, undef, undef, undef, undef, undef, undef, undef, undef, undef, undef, undef, undef, undef, undef, undef, undef, undef, undef, undef, undef, undef, undef, undef, undef, undef, undef, undef, undef, undef, undef, undef, undef, undef, undef, undef, undef, undef, undef, undef, undef, undef, undef, undef, undef, undef, undef, undef, undef, undef, undef, undef, undef, undef, undef, undef, undef, undef, undef, undef, undef, undef, undef, undef, undef, undef, undef, undef, undef, undef, undef, undef], defers := [] }) ?assign ?body ?done ?stop
  case hI =>
    refine OwnFrom.toT (fun pre X Y row hs hg hr => ?_)
    obtain ⟨st, vs, vw, h1, h2, h3⟩ := hs
    exact ⟨st, vs, vw, h1, h2, blk_own (β := Unit) _ _ (fun _ => _) () X Y row h3.res hg hr, blk_own (β := Unit) _ _ (fun _ => _) () X Y row h3.ok hg hr,
      ⟨blk_own (β := Unit) _ _ (fun _ => _) () X Y row h3.own.blk hg hr, ownsRow_own (β := Unit) _ _ _ (fun _ => vs) (fun _ => st.s.secs.length) (fun _ => st.s.secs.flatMap sctCells) () X Y row h3.own.secs hg hr,
        ownsRow_own (β := Unit) _ _ _ (fun _ => vw) (fun _ => st.s.words.length) (fun _ => u32s st.s.words) () X Y row h3.own.words hg hr⟩,
      blk_own (β := Unit) _ _ (fun _ => _) () X Y row h3.sh hg hr, blk_own (β := Unit) _ _ (fun _ => _) () X Y row h3.many hg hr, blk_own (β := Unit) _ _ (fun _ => _) () X Y row h3.box hg hr, keep_own (β := Unit) (by omega) () X Y row h3.keep hg hr⟩
  case hIx =>
    refine fun c => OwnFrom.toT (fun pre X Y row hs hg hr => ?_)
    obtain ⟨rfl, h1, h2, h3, h4⟩ := hs
    exact ⟨rfl, h1, blk_own (β := Unit) _ _ (fun _ => _) () X Y row h2 hg hr, blk_own (β := Unit) _ _ (fun _ => _) () X Y row h3 hg hr,
      keep_own (β := Unit) (by omega) () X Y row h4 hg hr⟩
  case assign =>
    intro l x W K hK
    simp only [encNS]
    gi_wp2
    exact hK
  case body =>
    rintro l pre x W ⟨st, vs, vw, hf, hok, hA⟩ hpre
    have hx1 := number_at hpre
    have hx2 := piece_size hpre
    have hpl : pre.length ≤ s.size := by
      have := hpre.length_le
      rw [number_length] at this
      simp at this
      omega
    have HX : Hid (rdFold rd0 (pre ++ [x]) = rdStep st x) := by
      show _ = _
      rw [rdFold_snoc, hf]
      rfl
    have HOK : Hid (∀ st', rdStep st x = some st' → RdOk st' (pre ++ [x]).length) := fun st' h => by
      rw [List.length_append]
      exact rdStep_ok hok h
    obtain ⟨xi, xp⟩ := x
    dsimp only at hx1 hx2
    clear hf hpre
    by_cases hp0 : pre.length = 0
    · obtain rfl : xi = 0 := by omega
      clear hx1 hp0
      have hA1 := hA.setMany 0
      have HA1 := Lib.hid hA1
      have HA := Lib.hid hA
      have c4 := hA.many.cell 0
      have f4 := hA.many.frozen 0
      simp at c4
      have kk1 := keep_set W (w.heap.size + 4) 0 (.int .i64 0)
      have hs1 : w.heap.size + 5 < W.heap.size := hA.box.lt
      have HP1 := Lib.hid (rdKp_of (B := W0.heap.size) (by omega) hs1 kk1 (fun y hy => by simp at hy; omega))
      have HK := fun W => Lib.hid (kindOf_any xp W)
      have hStep : Hid (rdStep st (0, xp) = if kindW xp = 0 then none else some { s := { st.s with kind := kindW xp }, sh := shp (kindW xp), many := 0 }) := if_pos rfl
      have HS := fun W => Lib.hid (shapeOf_any (kindW xp) W)
      generalize kindW xp = kd at *
      clear hA hA1 kk1 hok
      gi_wp2_with (first
        | (refine ⟨trivial, ?_⟩; gi_at_call 47; refine (callsIn_wide.2 (HK _).out).mono ?_; rintro e w1 ⟨rfl, k1⟩; have hA2 := HA1.out.keep0 k1; have c2 := hA2.own.blk.cell 0; have f2 := hA2.own.blk.frozen 0; simp [ownCells] at c2)
        | (refine ⟨trivial, ?_⟩; gi_at_call 48; refine (callsIn_wide.2 (HS _).out).mono ?_; rintro e w2 ⟨rfl, k2⟩)
        | (refine stopIn_store 95 (.tmp 5) (.tmp 27) rfl ?_))
      constructor
      have hA3 := (hA2.setKind kd).keep0 k2
      have hz1 := hA2.box.lt
      have hz2 := hA3.box.lt
      have hp2 := (HP1.out.trans (rdKp_of (B := W0.heap.size) (by omega) (by simpa using hs1) k1 (by simp))).trans ((rdKp_of (B := W0.heap.size) (by omega) hz1 (keep_set w1 (w.heap.size + 2) 0 (.int .i64 kd)) (fun y hy => by simp at hy; omega)).trans (rdKp_of (B := W0.heap.size) (by omega) (by simpa using hz1) k2 (by simp)))
      refine wpListIn_store_all rfl 95 (.tmp 5) (.tmp 27) rfl rfl rfl (vs := [.string (shp kd).1, .string (shp kd).2]) agg_shape.2 hA3.sh (by simp [Value.oneCell']) rfl ?_
      intro w3 d3 k3
      have hA4 := hA3.setSh k3 (shp kd) d3
      have HP3 := Lib.hid (hp2.trans (rdKp_of (B := W0.heap.size) (by omega) hz2 k3 (fun y hy => by simp at hy; omega)))
      have c5 := hA4.own.blk.cell 0
      simp [ownCells] at c5
      have HA4 := Lib.hid hA4
      clear hA2 hA3 hz1 hz2 hp2 k1 k2 k3 d3 c2 f2 c4 f4 hA4
      by_cases hk0 : kd = 0
      · have hk1 : (kd == 0) = true := by simp [hk0]
        have hF : Hid (rdFold rd0 (pre ++ [(0, xp)]) = none) := by show _ = _; rw [HX.out, hStep.out, if_pos hk0]
        clear hk0
        gi_wp2_with (refine stopIn_store 45 (.tmp 2) (.tmp 32) rfl ?_)
        constructor
        refine wpListIn_store_all rfl 45 (.tmp 2) (.tmp 32) rfl rfl rfl (vs := zStep) agg_step.2 HA4.out.res zStep_one rfl ?_
        intro w5 d5 k5
        have b6 := HA4.out.ok.keep k5 (by simp)
        have c6 := b6.cell 0
        have f6 := b6.frozen 0
        simp at c6
        have HD5 := Lib.hid d5
        have HK5 := Lib.hid k5
        clear d5 k5
        gi_wp2
        have k6 := keep_set w5 (w.heap.size + 1) 0 (.bool false)
        have k7 := (HK5.out.mono (G := [w.heap.size, w.heap.size + 1]) (by simp)).trans k6 (by simp)
        have hp7 := HP3.out.trans (rdKp_of (B := W0.heap.size) (by omega) HA4.out.box.lt k7 (fun y hy => by simp at hy; omega))
        exact ⟨hp7.1, hp7.2, rfl, hF.out, HD5.out.keep k6 (by simp), b6.set_ 0 _, HA4.out.keep.trans k7 (fun y hy hlt => by simp at hy; omega)⟩
      · have hk1 : (kd == 0) = false := by simp [hk0]
        have hF : Hid (rdStep st (0, xp) = some { s := { st.s with kind := kd }, sh := shp kd, many := 0 }) := by show _ = _; rw [hStep.out, if_neg hk0]
        clear hk0
        gi_wp2
        exact ⟨by have := HP3.out.1; rwa [hsz] at this, HP3.out.2, _, _, _, HX.out.trans hF.out, HOK.out _ hF.out, HA4.out⟩
    · obtain ⟨i, hi⟩ : ∃ i : Nat, i = pre.length := ⟨_, rfl⟩
      obtain rfl : xi = (i : Int) := by omega
      have hi1 : 1 ≤ i := by omega
      have hi2 : i ≤ 1000000 := by omega
      have hsl := hok.secs
      have hwl := hok.words
      obtain ⟨kk0, hk0⟩ := hok.sh
      have hsh3 : st.sh.2.size ≤ 3 := by rw [hk0]; exact shp_size kk0
      have hpc : ∀ j, j < st.sh.2.size → partC (byteAt st.sh.2 j) := by rw [hk0]; exact shp_parts kk0
      have hne0 : ¬ (i : Int) = 0 := by omega
      have hb0 : ((i : Int) == 0) = false := by simp; omega
      have hsl1 : st.s.secs.length ≤ 1000000 := by omega
      have hwl1 : st.s.words.length ≤ 1000000 := by omega
      clear hok hk0 hx1 hp0 hi hsl hwl hpl hi1
      obtain ⟨st, ⟨sh1, sh2⟩, many⟩ := st
      dsimp only at *
      have hA1 := hA.setMany (i : Int)
      dsimp only at hA1
      have HA1 := Lib.hid hA1
      have c4 := hA.many.cell 0
      have f4 := hA.many.frozen 0
      simp at c4
      have kk1 := keep_set W (w.heap.size + 4) 0 (.int .i64 (i : Int))
      have hs1 : w.heap.size + 5 < W.heap.size := hA.box.lt
      have HP1 := Lib.hid (rdKp_of (B := W0.heap.size) (by omega) hs1 kk1 (fun y hy => by simp at hy; omega))
      obtain ⟨W1, hW1⟩ : ∃ W1, W1 = W.setCell ⟨w.heap.size + 4, 0, none⟩ (.int .i64 (i : Int)) := ⟨_, rfl⟩
      rw [← hW1] at hA1 HA1 HP1
      have HW1 := Lib.hid hW1
      have cs2 : (W.setCell ⟨w.heap.size + 4, 0, none⟩ (.int .i64 (i : Int))).cell? ⟨w.heap.size + 3, 1, none⟩ = some (.string sh2) := by rw [← hW1]; exact hA1.sh.cell 1
      clear hA hA1 kk1 hW1
      gi_wp2_with (refine stopIn_at 40 rfl ?_)
      constructor
      rw [← HW1.out]
      rw [← HW1.out] at cs2
      have HS : Hid (rdStep ⟨st, (sh1, sh2), many⟩ ((i : Int), xp) = if min (i : Int) (sh2.size : Int) - 1 < 0 then none else if (sh2.size : Int) < (i : Int) ∧ byteAt sh2 (min (i : Int) (sh2.size : Int) - 1).toNat ≠ 115 ∧ byteAt sh2 (min (i : Int) (sh2.size : Int) - 1).toNat ≠ 119 then none else if (partP st (byteAt sh2 (min (i : Int) (sh2.size : Int) - 1).toNat) xp).2 = true then some { s := (partP st (byteAt sh2 (min (i : Int) (sh2.size : Int) - 1).toNat) xp).1, sh := (sh1, sh2), many := (i : Int) } else none) := if_neg hne0
      have hkl : min (i : Int) (sh2.size : Int) - 1 < 3 := by omega
      have hkz : min (i : Int) (sh2.size : Int) - 1 < (sh2.size : Int) := by omega
      generalize min (i : Int) (sh2.size : Int) - 1 = k at *
      by_cases hk0 : k < 0
      · have hF : Hid (rdFold rd0 (pre ++ [((i : Int), xp)]) = none) := by show _ = _; rw [HX.out, HS.out, if_pos hk0]
        gi_wp2_with (first | (refine ⟨trivial, ?_⟩; go_at_K) | (refine stopIn_store 45 (.tmp 2) (.tmp 71) rfl ?_))
        constructor
        refine wpListIn_store_all rfl 45 (.tmp 2) (.tmp 71) rfl rfl rfl (vs := zStep) agg_step.2 HA1.out.res zStep_one rfl ?_
        intro w5 d5 k5
        have b6 := HA1.out.ok.keep k5 (by simp)
        have c6 := b6.cell 0
        have f6 := b6.frozen 0
        simp at c6
        have HD5 := Lib.hid d5
        have HK5 := Lib.hid k5
        clear d5 k5
        gi_wp2
        have k6 := keep_set w5 (w.heap.size + 1) 0 (.bool false)
        have k7 := (HK5.out.mono (G := [w.heap.size, w.heap.size + 1]) (by simp)).trans k6 (by simp)
        have hp7 := HP1.out.trans (rdKp_of (B := W0.heap.size) (by omega) HA1.out.box.lt k7 (fun y hy => by simp at hy; omega))
        exact ⟨hp7.1, hp7.2, rfl, hF.out, HD5.out.keep k6 (by simp), b6.set_ 0 _, HA1.out.keep.trans k7 (fun y hy hlt => by simp at hy; omega)⟩
      · obtain ⟨kn, rfl⟩ : ∃ kn : Nat, k = (kn : Int) := ⟨k.toNat, by omega⟩
        have hkn : kn < sh2.size := by omega
        have hby : byteAt sh2 kn = ((sh2[kn]'hkn).toNat : Int) := dif_pos hkn
        have hpp := hpc kn hkn
        rw [hby] at hpp
        have HPT : Hid (Calls Try.prog 49 #[.pointer (some ⟨w.heap.size + 2, 0, none⟩), .int .u8 ((sh2[kn]'hkn).toNat : Int), .string xp] W1 (PartPost W1 (w.heap.size + 2) (w.heap.size + 2) (partP st ((sh2[kn]'hkn).toNat : Int) xp).1 (partP st ((sh2[kn]'hkn).toNat : Int) xp).2)) := part_any W1 (w.heap.size + 2) (w.heap.size + 2) st _ xp hpp ⟨_, _, HA1.out.own⟩ (Nat.le_refl _) (by omega) hsl1 hwl1
        rw [Int.toNat_natCast, hby] at HS
        have hnk : decide ((kn : Int) < 0) = false := decide_eq_false hk0
        have hS1 : Hid ((if (kn : Int) < 0 then none else if (sh2.size : Int) < (i : Int) ∧ ((sh2[kn]'hkn).toNat : Int) ≠ 115 ∧ ((sh2[kn]'hkn).toNat : Int) ≠ 119 then none else if (partP st ((sh2[kn]'hkn).toNat : Int) xp).2 = true then some { s := (partP st ((sh2[kn]'hkn).toNat : Int) xp).1, sh := (sh1, sh2), many := (i : Int) } else none : Option RdS) = if (sh2.size : Int) < (i : Int) ∧ ((sh2[kn]'hkn).toNat : Int) ≠ 115 ∧ ((sh2[kn]'hkn).toNat : Int) ≠ 119 then none else if (partP st ((sh2[kn]'hkn).toNat : Int) xp).2 = true then some { s := (partP st ((sh2[kn]'hkn).toNat : Int) xp).1, sh := (sh1, sh2), many := (i : Int) } else none) := if_neg hk0
        rw [hS1.out] at HS
        clear hS1 hk0
        generalize hr : partP st ((sh2[kn]'hkn).toNat : Int) xp = r at *
        clear hr hby hpc hpp
        by_cases hlt : (sh2.size : Int) < (i : Int)
        · by_cases h1 : ((sh2[kn]'hkn).toNat : Int) = 115
          · have q1 : (((sh2[kn]'hkn).toNat : Int) != 115) = false := by simp [h1]
            have hS2 : Hid ((if (sh2.size : Int) < (i : Int) ∧ ((sh2[kn]'hkn).toNat : Int) ≠ 115 ∧ ((sh2[kn]'hkn).toNat : Int) ≠ 119 then none else if r.2 = true then some { s := r.1, sh := (sh1, sh2), many := (i : Int) } else none : Option RdS) = if r.2 = true then some { s := r.1, sh := (sh1, sh2), many := (i : Int) } else none) := if_neg (fun h => h.2.1 h1)
            clear h1
            cases hok : r.2 with
            | true =>
              rw [hok] at HPT
              have hF : Hid (rdStep ⟨st, (sh1, sh2), many⟩ ((i : Int), xp) = some { s := r.1, sh := (sh1, sh2), many := (i : Int) }) := by show _ = _; rw [HS.out, hS2.out, if_pos hok]
              clear hok
              gi_wp2_with (refine stopIn_at 68 rfl ?_)
              constructor
              refine wpListIn_call_w (open_round l) (by rfl) (f := 49) rfl (by simp only [List.map_toArray, List.map_cons, List.map_nil]; rfl) Try.func49 (by kernel_rfl) (by kernel_rfl) HPT.out ?_
              rintro e w2 ⟨rfl, hO2, hK2⟩
              refine ⟨_, rfl, ?_⟩
              obtain ⟨vs2, vw2, hA2⟩ := HA1.out.part _ hO2 hK2
              have HA2 := Lib.hid hA2
              have HK2 := Lib.hid hK2
              clear hO2 hA2 hK2
              gi_wp2
              have hp2 := HP1.out.trans (⟨KeepsFrom.mono HK2.out.other (by omega), fun k hk => by simp at hk; subst hk; exact (HA2.out.box).trans HA1.out.box.symm⟩ : RdKp w W0.heap.size _ _)
              exact ⟨by have := hp2.1; rwa [hsz] at this, hp2.2, _, _, _, HX.out.trans hF.out, HOK.out _ hF.out, HA2.out⟩
            | false =>
              rw [hok] at HPT
              have hF : Hid (rdFold rd0 (pre ++ [((i : Int), xp)]) = none) := by show _ = _; rw [HX.out, HS.out, hS2.out, if_neg (by rw [hok]; decide)]
              clear hok
              gi_wp2_with (refine stopIn_at 68 rfl ?_)
              constructor
              refine wpListIn_call_w (open_round l) (by rfl) (f := 49) rfl (by simp only [List.map_toArray, List.map_cons, List.map_nil]; rfl) Try.func49 (by kernel_rfl) (by kernel_rfl) HPT.out ?_
              rintro e w2 ⟨rfl, hO2, hK2⟩
              refine ⟨_, rfl, ?_⟩
              obtain ⟨vs2, vw2, hA2⟩ := HA1.out.part _ hO2 hK2
              have HA2 := Lib.hid hA2
              have HK2 := Lib.hid hK2
              clear hO2 hA2 hK2
              gi_wp2_with (refine stopIn_store 45 (.tmp 2) (.tmp 71) rfl ?_)
              have HP2 : Hid (RdKp w W0.heap.size W w2) := HP1.out.trans (⟨KeepsFrom.mono HK2.out.other (by omega), fun k hk => by simp at hk; subst hk; exact (HA2.out.box).trans HA1.out.box.symm⟩ : RdKp w W0.heap.size _ _)
              constructor
              refine wpListIn_store_all rfl 45 (.tmp 2) (.tmp 71) rfl rfl rfl (vs := zStep) agg_step.2 HA2.out.res zStep_one rfl ?_
              intro w5 d5 k5
              have b6 := HA2.out.ok.keep k5 (by simp)
              have c6 := b6.cell 0
              have f6 := b6.frozen 0
              simp at c6
              have HD5 := Lib.hid d5
              have HK5 := Lib.hid k5
              clear d5 k5
              gi_wp2
              have k6 := keep_set w5 (w.heap.size + 1) 0 (.bool false)
              have k7 := (HK5.out.mono (G := [w.heap.size, w.heap.size + 1]) (by simp)).trans k6 (by simp)
              have hp7 := HP2.out.trans (rdKp_of (B := W0.heap.size) (by omega) HA2.out.box.lt k7 (fun y hy => by simp at hy; omega))
              exact ⟨hp7.1, hp7.2, rfl, hF.out, HD5.out.keep k6 (by simp), b6.set_ 0 _, HA2.out.keep.trans k7 (fun y hy hlt => by simp at hy; omega)⟩
          · by_cases h2 : ((sh2[kn]'hkn).toNat : Int) = 119
            · have q1 : (((sh2[kn]'hkn).toNat : Int) != 115) = true := by simp [h1]
              have q2 : (((sh2[kn]'hkn).toNat : Int) != 119) = false := by simp [h2]
              have hS2 : Hid ((if (sh2.size : Int) < (i : Int) ∧ ((sh2[kn]'hkn).toNat : Int) ≠ 115 ∧ ((sh2[kn]'hkn).toNat : Int) ≠ 119 then none else if r.2 = true then some { s := r.1, sh := (sh1, sh2), many := (i : Int) } else none : Option RdS) = if r.2 = true then some { s := r.1, sh := (sh1, sh2), many := (i : Int) } else none) := if_neg (fun h => h.2.2 h2)
              clear h1 h2
              cases hok : r.2 with
              | true =>
                rw [hok] at HPT
                have hF : Hid (rdStep ⟨st, (sh1, sh2), many⟩ ((i : Int), xp) = some { s := r.1, sh := (sh1, sh2), many := (i : Int) }) := by show _ = _; rw [HS.out, hS2.out, if_pos hok]
                clear hok
                gi_wp2_with (refine stopIn_at 68 rfl ?_)
                constructor
                refine wpListIn_call_w (open_round l) (by rfl) (f := 49) rfl (by simp only [List.map_toArray, List.map_cons, List.map_nil]; rfl) Try.func49 (by kernel_rfl) (by kernel_rfl) HPT.out ?_
                rintro e w2 ⟨rfl, hO2, hK2⟩
                refine ⟨_, rfl, ?_⟩
                obtain ⟨vs2, vw2, hA2⟩ := HA1.out.part _ hO2 hK2
                have HA2 := Lib.hid hA2
                have HK2 := Lib.hid hK2
                clear hO2 hA2 hK2
                gi_wp2
                have hp2 := HP1.out.trans (⟨KeepsFrom.mono HK2.out.other (by omega), fun k hk => by simp at hk; subst hk; exact (HA2.out.box).trans HA1.out.box.symm⟩ : RdKp w W0.heap.size _ _)
                exact ⟨by have := hp2.1; rwa [hsz] at this, hp2.2, _, _, _, HX.out.trans hF.out, HOK.out _ hF.out, HA2.out⟩
              | false =>
                rw [hok] at HPT
                have hF : Hid (rdFold rd0 (pre ++ [((i : Int), xp)]) = none) := by show _ = _; rw [HX.out, HS.out, hS2.out, if_neg (by rw [hok]; decide)]
                clear hok
                gi_wp2_with (refine stopIn_at 68 rfl ?_)
                constructor
                refine wpListIn_call_w (open_round l) (by rfl) (f := 49) rfl (by simp only [List.map_toArray, List.map_cons, List.map_nil]; rfl) Try.func49 (by kernel_rfl) (by kernel_rfl) HPT.out ?_
                rintro e w2 ⟨rfl, hO2, hK2⟩
                refine ⟨_, rfl, ?_⟩
                obtain ⟨vs2, vw2, hA2⟩ := HA1.out.part _ hO2 hK2
                have HA2 := Lib.hid hA2
                have HK2 := Lib.hid hK2
                clear hO2 hA2 hK2
                gi_wp2_with (refine stopIn_store 45 (.tmp 2) (.tmp 71) rfl ?_)
                have HP2 : Hid (RdKp w W0.heap.size W w2) := HP1.out.trans (⟨KeepsFrom.mono HK2.out.other (by omega), fun k hk => by simp at hk; subst hk; exact (HA2.out.box).trans HA1.out.box.symm⟩ : RdKp w W0.heap.size _ _)
                constructor
                refine wpListIn_store_all rfl 45 (.tmp 2) (.tmp 71) rfl rfl rfl (vs := zStep) agg_step.2 HA2.out.res zStep_one rfl ?_
                intro w5 d5 k5
                have b6 := HA2.out.ok.keep k5 (by simp)
                have c6 := b6.cell 0
                have f6 := b6.frozen 0
                simp at c6
                have HD5 := Lib.hid d5
                have HK5 := Lib.hid k5
                clear d5 k5
                gi_wp2
                have k6 := keep_set w5 (w.heap.size + 1) 0 (.bool false)
                have k7 := (HK5.out.mono (G := [w.heap.size, w.heap.size + 1]) (by simp)).trans k6 (by simp)
                have hp7 := HP2.out.trans (rdKp_of (B := W0.heap.size) (by omega) HA2.out.box.lt k7 (fun y hy => by simp at hy; omega))
                exact ⟨hp7.1, hp7.2, rfl, hF.out, HD5.out.keep k6 (by simp), b6.set_ 0 _, HA2.out.keep.trans k7 (fun y hy hlt => by simp at hy; omega)⟩
            · have q1 : (((sh2[kn]'hkn).toNat : Int) != 115) = true := by simp [h1]
              have q2 : (((sh2[kn]'hkn).toNat : Int) != 119) = true := by simp [h2]
              have hF : Hid (rdFold rd0 (pre ++ [((i : Int), xp)]) = none) := by show _ = _; rw [HX.out, HS.out, if_pos ⟨hlt, h1, h2⟩]
              clear h1 h2
              gi_wp2_with (first | (refine ⟨trivial, ?_⟩; go_at_K) | (refine stopIn_store 45 (.tmp 2) (.tmp 71) rfl ?_))
              constructor
              refine wpListIn_store_all rfl 45 (.tmp 2) (.tmp 71) rfl rfl rfl (vs := zStep) agg_step.2 HA1.out.res zStep_one rfl ?_
              intro w5 d5 k5
              have b6 := HA1.out.ok.keep k5 (by simp)
              have c6 := b6.cell 0
              have f6 := b6.frozen 0
              simp at c6
              have HD5 := Lib.hid d5
              have HK5 := Lib.hid k5
              clear d5 k5
              gi_wp2
              have k6 := keep_set w5 (w.heap.size + 1) 0 (.bool false)
              have k7 := (HK5.out.mono (G := [w.heap.size, w.heap.size + 1]) (by simp)).trans k6 (by simp)
              have hp7 := HP1.out.trans (rdKp_of (B := W0.heap.size) (by omega) HA1.out.box.lt k7 (fun y hy => by simp at hy; omega))
              exact ⟨hp7.1, hp7.2, rfl, hF.out, HD5.out.keep k6 (by simp), b6.set_ 0 _, HA1.out.keep.trans k7 (fun y hy hlt => by simp at hy; omega)⟩
        · have hS2 : Hid ((if (sh2.size : Int) < (i : Int) ∧ ((sh2[kn]'hkn).toNat : Int) ≠ 115 ∧ ((sh2[kn]'hkn).toNat : Int) ≠ 119 then none else if r.2 = true then some { s := r.1, sh := (sh1, sh2), many := (i : Int) } else none : Option RdS) = if r.2 = true then some { s := r.1, sh := (sh1, sh2), many := (i : Int) } else none) := if_neg (fun h => hlt h.1)
          cases hok : r.2 with
          | true =>
            rw [hok] at HPT
            have hF : Hid (rdStep ⟨st, (sh1, sh2), many⟩ ((i : Int), xp) = some { s := r.1, sh := (sh1, sh2), many := (i : Int) }) := by show _ = _; rw [HS.out, hS2.out, if_pos hok]
            clear hok
            gi_wp2_with (refine stopIn_at 68 rfl ?_)
            constructor
            refine wpListIn_call_w (open_round l) (by rfl) (f := 49) rfl (by simp only [List.map_toArray, List.map_cons, List.map_nil]; rfl) Try.func49 (by kernel_rfl) (by kernel_rfl) HPT.out ?_
            rintro e w2 ⟨rfl, hO2, hK2⟩
            refine ⟨_, rfl, ?_⟩
            obtain ⟨vs2, vw2, hA2⟩ := HA1.out.part _ hO2 hK2
            have HA2 := Lib.hid hA2
            have HK2 := Lib.hid hK2
            clear hO2 hA2 hK2
            gi_wp2
            have hp2 := HP1.out.trans (⟨KeepsFrom.mono HK2.out.other (by omega), fun k hk => by simp at hk; subst hk; exact (HA2.out.box).trans HA1.out.box.symm⟩ : RdKp w W0.heap.size _ _)
            exact ⟨by have := hp2.1; rwa [hsz] at this, hp2.2, _, _, _, HX.out.trans hF.out, HOK.out _ hF.out, HA2.out⟩
          | false =>
            rw [hok] at HPT
            have hF : Hid (rdFold rd0 (pre ++ [((i : Int), xp)]) = none) := by show _ = _; rw [HX.out, HS.out, hS2.out, if_neg (by rw [hok]; decide)]
            clear hok
            gi_wp2_with (refine stopIn_at 68 rfl ?_)
            constructor
            refine wpListIn_call_w (open_round l) (by rfl) (f := 49) rfl (by simp only [List.map_toArray, List.map_cons, List.map_nil]; rfl) Try.func49 (by kernel_rfl) (by kernel_rfl) HPT.out ?_
            rintro e w2 ⟨rfl, hO2, hK2⟩
            refine ⟨_, rfl, ?_⟩
            obtain ⟨vs2, vw2, hA2⟩ := HA1.out.part _ hO2 hK2
            have HA2 := Lib.hid hA2
            have HK2 := Lib.hid hK2
            clear hO2 hA2 hK2
            gi_wp2_with (refine stopIn_store 45 (.tmp 2) (.tmp 71) rfl ?_)
            have HP2 : Hid (RdKp w W0.heap.size W w2) := HP1.out.trans (⟨KeepsFrom.mono HK2.out.other (by omega), fun k hk => by simp at hk; subst hk; exact (HA2.out.box).trans HA1.out.box.symm⟩ : RdKp w W0.heap.size _ _)
            constructor
            refine wpListIn_store_all rfl 45 (.tmp 2) (.tmp 71) rfl rfl rfl (vs := zStep) agg_step.2 HA2.out.res zStep_one rfl ?_
            intro w5 d5 k5
            have b6 := HA2.out.ok.keep k5 (by simp)
            have c6 := b6.cell 0
            have f6 := b6.frozen 0
            simp at c6
            have HD5 := Lib.hid d5
            have HK5 := Lib.hid k5
            clear d5 k5
            gi_wp2
            have k6 := keep_set w5 (w.heap.size + 1) 0 (.bool false)
            have k7 := (HK5.out.mono (G := [w.heap.size, w.heap.size + 1]) (by simp)).trans k6 (by simp)
            have hp7 := HP2.out.trans (rdKp_of (B := W0.heap.size) (by omega) HA2.out.box.lt k7 (fun y hy => by simp at hy; omega))
            exact ⟨hp7.1, hp7.2, rfl, hF.out, HD5.out.keep k6 (by simp), b6.set_ 0 _, HA2.out.keep.trans k7 (fun y hy hlt => by simp at hy; omega)⟩
  case done =>
    rintro D W hD ⟨st, vs, vw, hf, hok, hA⟩ hD2
    have HR : Hid (readS s = rdDone st) := by show _ = _; unfold readS; rw [hf]
    have hone : ∀ v, v ∈ ownCells st.s vs vw → v.oneCell' = true := by
      obtain ⟨A1, c1, e1⟩ := own_shape hA.own.secs
      obtain ⟨A2, c2, e2⟩ := own_shape hA.own.words
      intro y hy
      simp [ownCells, e1, e2] at hy
      rcases hy with rfl | rfl | rfl | rfl | rfl <;> rfl
    have hsh3 : st.sh.2.size ≤ 3 := by
      obtain ⟨k, hk⟩ := hok.sh
      rw [hk]
      exact shp_size k
    clear hf hok
    have HA := Lib.hid hA
    obtain ⟨st, ⟨sh1, sh2⟩, many⟩ := st
    have cs2 : W.cell? ⟨w.heap.size + 3, 1, none⟩ = some (.string sh2) := hA.sh.cell 1
    have hsh : CellsAt W (w.heap.size + 3) 0 [.string sh1, .string sh2] := hA.sh.cellsAt
    clear hA
    have HH := fun c W => Lib.hid (has_any' sh1 sh2 c W)
    have hd0 : ∀ c, (0 ≤ idxB sh2 c) ∨ ¬ (0 ≤ idxB sh2 c) := fun c => by by_cases h : 0 ≤ idxB sh2 c <;> simp [h]
    rcases hd0 115 with h5 | h5
    · skip
      by_cases hk : st.kind = 0
      · skip
        have e5 : decide (0 ≤ idxB sh2 115) = true := decide_eq_true h5
        have hL : leastP sh2 = (sh2.size : Int) - 1 := if_pos (.inl h5)
        have hk1 : (st.kind == 0) = true := by simp [hk]
        have hD : Hid (rdDone ⟨st, (sh1, sh2), many⟩ = (noStp, false)) := if_pos (.inl hk)
        clear hL hk h5
        gi_wp2_with (first
          | (refine wpListIn_agg rfl 95 (.tmp 5) rfl rfl (cs := [.string sh1, .string sh2]) agg_shape hsh ?_)
          | (refine ⟨trivial, ?_⟩; gi_at_call 50; refine (callsIn_wide.2 (HH 115 _).out).mono ?_; rintro e w1 ⟨rfl, k1⟩; rw [e5]; have hA1 := HA.out.keep0 k1; have cA1 := hA1.own.blk.cell 0; have cA2 := hA1.many.cell 0; have hI1 : CellsAt w1 (w.heap.size + 2) 0 (ownCells st vs vw) := hA1.own.blk.cellsAt; simp [ownCells] at cA1 cA2)
          | (refine ⟨trivial, ?_⟩; go_at_K)
          | (refine stopIn_store 45 (.tmp 2) (.tmp 91) rfl ?_))
        constructor
        refine wpListIn_store_all rfl 45 (.tmp 2) (.tmp 91) rfl rfl rfl (vs := zStep) agg_step.2 hA1.res zStep_one rfl ?_
        intro w4 d4 k4
        have b4 := hA1.ok.keep k4 (by simp)
        have c4 := b4.cell 0
        have f4 := b4.frozen 0
        simp at c4
        have HD4 := Lib.hid d4
        have HK4 := Lib.hid k4
        have HA1 := Lib.hid hA1
        clear cA1 cA2 hI1 k4 d4 hA1
        gi_wp2
        have k5 := keep_set w4 (w.heap.size + 1) 0 (.bool false)
        have e1 := HD4.out.keep k5 (by simp)
        have e2 := b4.set_ 0 (.bool false)
        have kk := (k1.mono (G := [w.heap.size, w.heap.size + 1]) (by simp)).trans ((HK4.out.mono (G := [w.heap.size, w.heap.size + 1]) (by simp)).trans k5 (by simp)) (fun y hy _ => hy)
        have hD3 := (kk.block D (Array.getElem?_eq_some_iff.1 hD2).1 (by simp; omega)).trans hD2
        refine ⟨by simp, .inl ⟨_, _, rfl, run_takeDeferred hD3, ?_⟩⟩
        have m1 := blk_putObj (.deferred none) e1 hD3 rfl
        have m2 := (blk_putObj (.deferred none) e2 hD3 rfl).cell 0
        have m3 := ((HA.out.keep.trans kk (fun y hy hlt => by simp at hy; omega)).trans (keep_putObj _ D (.deferred none)) (fun y hy hlt => by simp at hy; omega) : Keep [] w _)
        simp at m2
        refine ⟨_, st_results_cc rfl _ rfl rfl m1 agg_step (v := .bool false) (by simp [go_sem, m2]), ?_⟩
        rw [HR.out, hD.out]
        exact ⟨.slice none 0 0, .slice none 0 0, rfl, World.ownsRow_nil _ _ _ _, World.ownsRow_nil _ _ _ _, m3⟩
      · by_cases hm : many < leastP sh2
        · skip
          have e5 : decide (0 ≤ idxB sh2 115) = true := decide_eq_true h5
          have hL : leastP sh2 = (sh2.size : Int) - 1 := if_pos (.inl h5)
          have hk1 : (st.kind == 0) = false := by simp [hk]
          have hm1 : decide (many < ((sh2.size : Int) - 1)) = true := decide_eq_true (by rw [← hL]; exact hm)
          have hD : Hid (rdDone ⟨st, (sh1, sh2), many⟩ = (noStp, false)) := if_pos (.inr hm)
          clear hL hk hm h5
          gi_wp2_with (first
            | (refine wpListIn_agg rfl 95 (.tmp 5) rfl rfl (cs := [.string sh1, .string sh2]) agg_shape hsh ?_)
            | (refine ⟨trivial, ?_⟩; gi_at_call 50; refine (callsIn_wide.2 (HH 115 _).out).mono ?_; rintro e w1 ⟨rfl, k1⟩; rw [e5]; have hA1 := HA.out.keep0 k1; have cA1 := hA1.own.blk.cell 0; have cA2 := hA1.many.cell 0; have hI1 : CellsAt w1 (w.heap.size + 2) 0 (ownCells st vs vw) := hA1.own.blk.cellsAt; simp [ownCells] at cA1 cA2)
            | (refine ⟨trivial, ?_⟩; go_at_K)
            | (refine stopIn_store 45 (.tmp 2) (.tmp 91) rfl ?_))
          constructor
          refine wpListIn_store_all rfl 45 (.tmp 2) (.tmp 91) rfl rfl rfl (vs := zStep) agg_step.2 hA1.res zStep_one rfl ?_
          intro w4 d4 k4
          have b4 := hA1.ok.keep k4 (by simp)
          have c4 := b4.cell 0
          have f4 := b4.frozen 0
          simp at c4
          have HD4 := Lib.hid d4
          have HK4 := Lib.hid k4
          have HA1 := Lib.hid hA1
          clear cA1 cA2 hI1 k4 d4 hA1
          gi_wp2
          have k5 := keep_set w4 (w.heap.size + 1) 0 (.bool false)
          have e1 := HD4.out.keep k5 (by simp)
          have e2 := b4.set_ 0 (.bool false)
          have kk := (k1.mono (G := [w.heap.size, w.heap.size + 1]) (by simp)).trans ((HK4.out.mono (G := [w.heap.size, w.heap.size + 1]) (by simp)).trans k5 (by simp)) (fun y hy _ => hy)
          have hD3 := (kk.block D (Array.getElem?_eq_some_iff.1 hD2).1 (by simp; omega)).trans hD2
          refine ⟨by simp, .inl ⟨_, _, rfl, run_takeDeferred hD3, ?_⟩⟩
          have m1 := blk_putObj (.deferred none) e1 hD3 rfl
          have m2 := (blk_putObj (.deferred none) e2 hD3 rfl).cell 0
          have m3 := ((HA.out.keep.trans kk (fun y hy hlt => by simp at hy; omega)).trans (keep_putObj _ D (.deferred none)) (fun y hy hlt => by simp at hy; omega) : Keep [] w _)
          simp at m2
          refine ⟨_, st_results_cc rfl _ rfl rfl m1 agg_step (v := .bool false) (by simp [go_sem, m2]), ?_⟩
          rw [HR.out, hD.out]
          exact ⟨.slice none 0 0, .slice none 0 0, rfl, World.ownsRow_nil _ _ _ _, World.ownsRow_nil _ _ _ _, m3⟩
        · skip
          have e5 : decide (0 ≤ idxB sh2 115) = true := decide_eq_true h5
          have hL : leastP sh2 = (sh2.size : Int) - 1 := if_pos (.inl h5)
          have hk1 : (st.kind == 0) = false := by simp [hk]
          have hm1 : decide (many < ((sh2.size : Int) - 1)) = false := decide_eq_false (by rw [← hL]; exact hm)
          have hD : Hid (rdDone ⟨st, (sh1, sh2), many⟩ = (st, true)) := if_neg (by rintro (h | h); exact hk h; exact hm h)
          clear hL hk hm h5
          gi_wp2_with (first
            | (refine wpListIn_agg rfl 95 (.tmp 5) rfl rfl (cs := [.string sh1, .string sh2]) agg_shape hsh ?_)
            | (refine ⟨trivial, ?_⟩; gi_at_call 50; refine (callsIn_wide.2 (HH 115 _).out).mono ?_; rintro e w1 ⟨rfl, k1⟩; rw [e5]; have hA1 := HA.out.keep0 k1; have cA1 := hA1.own.blk.cell 0; have cA2 := hA1.many.cell 0; have hI1 : CellsAt w1 (w.heap.size + 2) 0 (ownCells st vs vw) := hA1.own.blk.cellsAt; simp [ownCells] at cA1 cA2)
            | (refine ⟨trivial, ?_⟩; go_at_K)
            | (refine wpListIn_agg rfl 45 (.tmp 4) rfl rfl (cs := ownCells st vs vw) agg_step hI1 ?_)
            | (refine stopIn_store 45 (.tmp 2) (.tmp 92) rfl ?_))
          constructor
          refine wpListIn_store_all rfl 45 (.tmp 2) (.tmp 92) rfl rfl rfl (vs := ownCells st vs vw) agg_step.2 hA1.res hone rfl ?_
          intro w4 d4 k4
          have b4 := hA1.ok.keep k4 (by simp)
          have c4 := b4.cell 0
          have f4 := b4.frozen 0
          simp at c4
          have HD4 := Lib.hid d4
          have HK4 := Lib.hid k4
          have HA1 := Lib.hid hA1
          clear cA1 cA2 hI1 k4 d4 hA1
          gi_wp2
          have k5 := keep_set w4 (w.heap.size + 1) 0 (.bool true)
          have e1 := HD4.out.keep k5 (by simp)
          have e2 := b4.set_ 0 (.bool true)
          have kk := (k1.mono (G := [w.heap.size, w.heap.size + 1]) (by simp)).trans ((HK4.out.mono (G := [w.heap.size, w.heap.size + 1]) (by simp)).trans k5 (by simp)) (fun y hy _ => hy)
          have hD3 := (kk.block D (Array.getElem?_eq_some_iff.1 hD2).1 (by simp; omega)).trans hD2
          refine ⟨by simp, .inl ⟨_, _, rfl, run_takeDeferred hD3, ?_⟩⟩
          have m1 := blk_putObj (.deferred none) e1 hD3 rfl
          have m2 := (blk_putObj (.deferred none) e2 hD3 rfl).cell 0
          have m3 := ((HA.out.keep.trans kk (fun y hy hlt => by simp at hy; omega)).trans (keep_putObj _ D (.deferred none)) (fun y hy hlt => by simp at hy; omega) : Keep [] w _)
          simp at m2
          refine ⟨_, st_results_cc rfl _ rfl rfl m1 agg_step (v := .bool true) (by simp [go_sem, m2]), ?_⟩
          rw [HR.out, hD.out]
          have n0 := (HA.out.own.keep0 k1)
          have n1 : ∀ g, vs.ownBlock = some g → g ∉ [w.heap.size, w.heap.size + 1] := fun g hg hm => by have := row_base n0.secs g (by simp [hg]); simp at hm; omega
          have n2 : ∀ g, vw.ownBlock = some g → g ∉ [w.heap.size, w.heap.size + 1] := fun g hg hm => by have := row_base n0.words g (by simp [hg]); simp at hm; omega
          have kk2 : Keep [w.heap.size, w.heap.size + 1] w1 _ := (HK4.out.mono (by simp)).trans k5 (by simp)
          exact ⟨vs, vw, rfl, own_base (own_putObj (.deferred none) (own_keep n0.secs kk2 n1) hD3 rfl) (by omega), own_base (own_putObj (.deferred none) (own_keep n0.words kk2 n2) hD3 rfl) (by omega), m3⟩
    · rcases hd0 119 with h7 | h7
      · skip
        by_cases hk : st.kind = 0
        · skip
          have e5 : decide (0 ≤ idxB sh2 115) = false := decide_eq_false h5
          have e7 : decide (0 ≤ idxB sh2 119) = true := decide_eq_true h7
          have hL : leastP sh2 = (sh2.size : Int) - 1 := if_pos (.inr h7)
          have hk1 : (st.kind == 0) = true := by simp [hk]
          have hD : Hid (rdDone ⟨st, (sh1, sh2), many⟩ = (noStp, false)) := if_pos (.inl hk)
          clear hL hk h5 h7
          gi_wp2_with (first
            | (refine wpListIn_agg rfl 95 (.tmp 5) rfl rfl (cs := [.string sh1, .string sh2]) agg_shape hsh ?_)
            | (refine ⟨trivial, ?_⟩; gi_at_call 50; refine (callsIn_wide.2 (HH 115 _).out).mono ?_; rintro e w1 ⟨rfl, k1⟩; rw [e5]; have hsh1 := (HA.out.keep0 k1).sh.cellsAt)
            | (refine wpListIn_agg_w (by rfl) 95 (.tmp 5) rfl rfl (cs := [.string sh1, .string sh2]) agg_shape hsh1 ?_)
            | (refine wpListIn_call_w open_wide (by rfl) (f := 50) rfl (by simp only [List.map_toArray, List.map_cons, List.map_nil]; rfl) Try.func50 (by kernel_rfl) (by kernel_rfl) (HH 119 _).out ?_; rintro e w2 ⟨rfl, k2⟩; refine ⟨_, rfl, ?_⟩; rw [e7]; have k1 := k1.then k2; have hA1 := HA.out.keep0 k1; have cA1 := hA1.own.blk.cell 0; have cA2 := hA1.many.cell 0; have hI1 : CellsAt w2 (w.heap.size + 2) 0 (ownCells st vs vw) := hA1.own.blk.cellsAt; simp [ownCells] at cA1 cA2)
            | (refine ⟨trivial, ?_⟩; go_at_K)
            | (refine stopIn_store 45 (.tmp 2) (.tmp 91) rfl ?_))
          constructor
          refine wpListIn_store_all rfl 45 (.tmp 2) (.tmp 91) rfl rfl rfl (vs := zStep) agg_step.2 hA1.res zStep_one rfl ?_
          intro w4 d4 k4
          have b4 := hA1.ok.keep k4 (by simp)
          have c4 := b4.cell 0
          have f4 := b4.frozen 0
          simp at c4
          have HD4 := Lib.hid d4
          have HK4 := Lib.hid k4
          have HA1 := Lib.hid hA1
          clear cA1 cA2 hI1 k4 d4 hA1
          gi_wp2
          have k5 := keep_set w4 (w.heap.size + 1) 0 (.bool false)
          have e1 := HD4.out.keep k5 (by simp)
          have e2 := b4.set_ 0 (.bool false)
          have kk := (k1.mono (G := [w.heap.size, w.heap.size + 1]) (by simp)).trans ((HK4.out.mono (G := [w.heap.size, w.heap.size + 1]) (by simp)).trans k5 (by simp)) (fun y hy _ => hy)
          have hD3 := (kk.block D (Array.getElem?_eq_some_iff.1 hD2).1 (by simp; omega)).trans hD2
          refine ⟨by simp, .inl ⟨_, _, rfl, run_takeDeferred hD3, ?_⟩⟩
          have m1 := blk_putObj (.deferred none) e1 hD3 rfl
          have m2 := (blk_putObj (.deferred none) e2 hD3 rfl).cell 0
          have m3 := ((HA.out.keep.trans kk (fun y hy hlt => by simp at hy; omega)).trans (keep_putObj _ D (.deferred none)) (fun y hy hlt => by simp at hy; omega) : Keep [] w _)
          simp at m2
          refine ⟨_, st_results_cc rfl _ rfl rfl m1 agg_step (v := .bool false) (by simp [go_sem, m2]), ?_⟩
          rw [HR.out, hD.out]
          exact ⟨.slice none 0 0, .slice none 0 0, rfl, World.ownsRow_nil _ _ _ _, World.ownsRow_nil _ _ _ _, m3⟩
        · by_cases hm : many < leastP sh2
          · skip
            have e5 : decide (0 ≤ idxB sh2 115) = false := decide_eq_false h5
            have e7 : decide (0 ≤ idxB sh2 119) = true := decide_eq_true h7
            have hL : leastP sh2 = (sh2.size : Int) - 1 := if_pos (.inr h7)
            have hk1 : (st.kind == 0) = false := by simp [hk]
            have hm1 : decide (many < ((sh2.size : Int) - 1)) = true := decide_eq_true (by rw [← hL]; exact hm)
            have hD : Hid (rdDone ⟨st, (sh1, sh2), many⟩ = (noStp, false)) := if_pos (.inr hm)
            clear hL hk hm h5 h7
            gi_wp2_with (first
              | (refine wpListIn_agg rfl 95 (.tmp 5) rfl rfl (cs := [.string sh1, .string sh2]) agg_shape hsh ?_)
              | (refine ⟨trivial, ?_⟩; gi_at_call 50; refine (callsIn_wide.2 (HH 115 _).out).mono ?_; rintro e w1 ⟨rfl, k1⟩; rw [e5]; have hsh1 := (HA.out.keep0 k1).sh.cellsAt)
              | (refine wpListIn_agg_w (by rfl) 95 (.tmp 5) rfl rfl (cs := [.string sh1, .string sh2]) agg_shape hsh1 ?_)
              | (refine wpListIn_call_w open_wide (by rfl) (f := 50) rfl (by simp only [List.map_toArray, List.map_cons, List.map_nil]; rfl) Try.func50 (by kernel_rfl) (by kernel_rfl) (HH 119 _).out ?_; rintro e w2 ⟨rfl, k2⟩; refine ⟨_, rfl, ?_⟩; rw [e7]; have k1 := k1.then k2; have hA1 := HA.out.keep0 k1; have cA1 := hA1.own.blk.cell 0; have cA2 := hA1.many.cell 0; have hI1 : CellsAt w2 (w.heap.size + 2) 0 (ownCells st vs vw) := hA1.own.blk.cellsAt; simp [ownCells] at cA1 cA2)
              | (refine ⟨trivial, ?_⟩; go_at_K)
              | (refine stopIn_store 45 (.tmp 2) (.tmp 91) rfl ?_))
            constructor
            refine wpListIn_store_all rfl 45 (.tmp 2) (.tmp 91) rfl rfl rfl (vs := zStep) agg_step.2 hA1.res zStep_one rfl ?_
            intro w4 d4 k4
            have b4 := hA1.ok.keep k4 (by simp)
            have c4 := b4.cell 0
            have f4 := b4.frozen 0
            simp at c4
            have HD4 := Lib.hid d4
            have HK4 := Lib.hid k4
            have HA1 := Lib.hid hA1
            clear cA1 cA2 hI1 k4 d4 hA1
            gi_wp2
            have k5 := keep_set w4 (w.heap.size + 1) 0 (.bool false)
            have e1 := HD4.out.keep k5 (by simp)
            have e2 := b4.set_ 0 (.bool false)
            have kk := (k1.mono (G := [w.heap.size, w.heap.size + 1]) (by simp)).trans ((HK4.out.mono (G := [w.heap.size, w.heap.size + 1]) (by simp)).trans k5 (by simp)) (fun y hy _ => hy)
            have hD3 := (kk.block D (Array.getElem?_eq_some_iff.1 hD2).1 (by simp; omega)).trans hD2
            refine ⟨by simp, .inl ⟨_, _, rfl, run_takeDeferred hD3, ?_⟩⟩
            have m1 := blk_putObj (.deferred none) e1 hD3 rfl
            have m2 := (blk_putObj (.deferred none) e2 hD3 rfl).cell 0
            have m3 := ((HA.out.keep.trans kk (fun y hy hlt => by simp at hy; omega)).trans (keep_putObj _ D (.deferred none)) (fun y hy hlt => by simp at hy; omega) : Keep [] w _)
            simp at m2
            refine ⟨_, st_results_cc rfl _ rfl rfl m1 agg_step (v := .bool false) (by simp [go_sem, m2]), ?_⟩
            rw [HR.out, hD.out]
            exact ⟨.slice none 0 0, .slice none 0 0, rfl, World.ownsRow_nil _ _ _ _, World.ownsRow_nil _ _ _ _, m3⟩
          · skip
            have e5 : decide (0 ≤ idxB sh2 115) = false := decide_eq_false h5
            have e7 : decide (0 ≤ idxB sh2 119) = true := decide_eq_true h7
            have hL : leastP sh2 = (sh2.size : Int) - 1 := if_pos (.inr h7)
            have hk1 : (st.kind == 0) = false := by simp [hk]
            have hm1 : decide (many < ((sh2.size : Int) - 1)) = false := decide_eq_false (by rw [← hL]; exact hm)
            have hD : Hid (rdDone ⟨st, (sh1, sh2), many⟩ = (st, true)) := if_neg (by rintro (h | h); exact hk h; exact hm h)
            clear hL hk hm h5 h7
            gi_wp2_with (first
              | (refine wpListIn_agg rfl 95 (.tmp 5) rfl rfl (cs := [.string sh1, .string sh2]) agg_shape hsh ?_)
              | (refine ⟨trivial, ?_⟩; gi_at_call 50; refine (callsIn_wide.2 (HH 115 _).out).mono ?_; rintro e w1 ⟨rfl, k1⟩; rw [e5]; have hsh1 := (HA.out.keep0 k1).sh.cellsAt)
              | (refine wpListIn_agg_w (by rfl) 95 (.tmp 5) rfl rfl (cs := [.string sh1, .string sh2]) agg_shape hsh1 ?_)
              | (refine wpListIn_call_w open_wide (by rfl) (f := 50) rfl (by simp only [List.map_toArray, List.map_cons, List.map_nil]; rfl) Try.func50 (by kernel_rfl) (by kernel_rfl) (HH 119 _).out ?_; rintro e w2 ⟨rfl, k2⟩; refine ⟨_, rfl, ?_⟩; rw [e7]; have k1 := k1.then k2; have hA1 := HA.out.keep0 k1; have cA1 := hA1.own.blk.cell 0; have cA2 := hA1.many.cell 0; have hI1 : CellsAt w2 (w.heap.size + 2) 0 (ownCells st vs vw) := hA1.own.blk.cellsAt; simp [ownCells] at cA1 cA2)
              | (refine ⟨trivial, ?_⟩; go_at_K)
              | (refine wpListIn_agg rfl 45 (.tmp 4) rfl rfl (cs := ownCells st vs vw) agg_step hI1 ?_)
              | (refine stopIn_store 45 (.tmp 2) (.tmp 92) rfl ?_))
            constructor
            refine wpListIn_store_all rfl 45 (.tmp 2) (.tmp 92) rfl rfl rfl (vs := ownCells st vs vw) agg_step.2 hA1.res hone rfl ?_
            intro w4 d4 k4
            have b4 := hA1.ok.keep k4 (by simp)
            have c4 := b4.cell 0
            have f4 := b4.frozen 0
            simp at c4
            have HD4 := Lib.hid d4
            have HK4 := Lib.hid k4
            have HA1 := Lib.hid hA1
            clear cA1 cA2 hI1 k4 d4 hA1
            gi_wp2
            have k5 := keep_set w4 (w.heap.size + 1) 0 (.bool true)
            have e1 := HD4.out.keep k5 (by simp)
            have e2 := b4.set_ 0 (.bool true)
            have kk := (k1.mono (G := [w.heap.size, w.heap.size + 1]) (by simp)).trans ((HK4.out.mono (G := [w.heap.size, w.heap.size + 1]) (by simp)).trans k5 (by simp)) (fun y hy _ => hy)
            have hD3 := (kk.block D (Array.getElem?_eq_some_iff.1 hD2).1 (by simp; omega)).trans hD2
            refine ⟨by simp, .inl ⟨_, _, rfl, run_takeDeferred hD3, ?_⟩⟩
            have m1 := blk_putObj (.deferred none) e1 hD3 rfl
            have m2 := (blk_putObj (.deferred none) e2 hD3 rfl).cell 0
            have m3 := ((HA.out.keep.trans kk (fun y hy hlt => by simp at hy; omega)).trans (keep_putObj _ D (.deferred none)) (fun y hy hlt => by simp at hy; omega) : Keep [] w _)
            simp at m2
            refine ⟨_, st_results_cc rfl _ rfl rfl m1 agg_step (v := .bool true) (by simp [go_sem, m2]), ?_⟩
            rw [HR.out, hD.out]
            have n0 := (HA.out.own.keep0 k1)
            have n1 : ∀ g, vs.ownBlock = some g → g ∉ [w.heap.size, w.heap.size + 1] := fun g hg hm => by have := row_base n0.secs g (by simp [hg]); simp at hm; omega
            have n2 : ∀ g, vw.ownBlock = some g → g ∉ [w.heap.size, w.heap.size + 1] := fun g hg hm => by have := row_base n0.words g (by simp [hg]); simp at hm; omega
            have kk2 : Keep [w.heap.size, w.heap.size + 1] w2 _ := (HK4.out.mono (by simp)).trans k5 (by simp)
            exact ⟨vs, vw, rfl, own_base (own_putObj (.deferred none) (own_keep n0.secs kk2 n1) hD3 rfl) (by omega), own_base (own_putObj (.deferred none) (own_keep n0.words kk2 n2) hD3 rfl) (by omega), m3⟩
      · skip
        by_cases hk : st.kind = 0
        · skip
          have e5 : decide (0 ≤ idxB sh2 115) = false := decide_eq_false h5
          have e7 : decide (0 ≤ idxB sh2 119) = false := decide_eq_false h7
          have hL : leastP sh2 = (sh2.size : Int) := if_neg (by rintro (h | h); exact h5 h; exact h7 h)
          have hk1 : (st.kind == 0) = true := by simp [hk]
          have hD : Hid (rdDone ⟨st, (sh1, sh2), many⟩ = (noStp, false)) := if_pos (.inl hk)
          clear hL hk h5 h7
          gi_wp2_with (first
            | (refine wpListIn_agg rfl 95 (.tmp 5) rfl rfl (cs := [.string sh1, .string sh2]) agg_shape hsh ?_)
            | (refine ⟨trivial, ?_⟩; gi_at_call 50; refine (callsIn_wide.2 (HH 115 _).out).mono ?_; rintro e w1 ⟨rfl, k1⟩; rw [e5]; have hsh1 := (HA.out.keep0 k1).sh.cellsAt)
            | (refine wpListIn_agg_w (by rfl) 95 (.tmp 5) rfl rfl (cs := [.string sh1, .string sh2]) agg_shape hsh1 ?_)
            | (refine wpListIn_call_w open_wide (by rfl) (f := 50) rfl (by simp only [List.map_toArray, List.map_cons, List.map_nil]; rfl) Try.func50 (by kernel_rfl) (by kernel_rfl) (HH 119 _).out ?_; rintro e w2 ⟨rfl, k2⟩; refine ⟨_, rfl, ?_⟩; rw [e7]; have k1 := k1.then k2; have hA1 := HA.out.keep0 k1; have cA1 := hA1.own.blk.cell 0; have cA2 := hA1.many.cell 0; have hI1 : CellsAt w2 (w.heap.size + 2) 0 (ownCells st vs vw) := hA1.own.blk.cellsAt; simp [ownCells] at cA1 cA2)
            | (refine ⟨trivial, ?_⟩; go_at_K)
            | (refine stopIn_store 45 (.tmp 2) (.tmp 91) rfl ?_))
          constructor
          refine wpListIn_store_all rfl 45 (.tmp 2) (.tmp 91) rfl rfl rfl (vs := zStep) agg_step.2 hA1.res zStep_one rfl ?_
          intro w4 d4 k4
          have b4 := hA1.ok.keep k4 (by simp)
          have c4 := b4.cell 0
          have f4 := b4.frozen 0
          simp at c4
          have HD4 := Lib.hid d4
          have HK4 := Lib.hid k4
          have HA1 := Lib.hid hA1
          clear cA1 cA2 hI1 k4 d4 hA1
          gi_wp2
          have k5 := keep_set w4 (w.heap.size + 1) 0 (.bool false)
          have e1 := HD4.out.keep k5 (by simp)
          have e2 := b4.set_ 0 (.bool false)
          have kk := (k1.mono (G := [w.heap.size, w.heap.size + 1]) (by simp)).trans ((HK4.out.mono (G := [w.heap.size, w.heap.size + 1]) (by simp)).trans k5 (by simp)) (fun y hy _ => hy)
          have hD3 := (kk.block D (Array.getElem?_eq_some_iff.1 hD2).1 (by simp; omega)).trans hD2
          refine ⟨by simp, .inl ⟨_, _, rfl, run_takeDeferred hD3, ?_⟩⟩
          have m1 := blk_putObj (.deferred none) e1 hD3 rfl
          have m2 := (blk_putObj (.deferred none) e2 hD3 rfl).cell 0
          have m3 := ((HA.out.keep.trans kk (fun y hy hlt => by simp at hy; omega)).trans (keep_putObj _ D (.deferred none)) (fun y hy hlt => by simp at hy; omega) : Keep [] w _)
          simp at m2
          refine ⟨_, st_results_cc rfl _ rfl rfl m1 agg_step (v := .bool false) (by simp [go_sem, m2]), ?_⟩
          rw [HR.out, hD.out]
          exact ⟨.slice none 0 0, .slice none 0 0, rfl, World.ownsRow_nil _ _ _ _, World.ownsRow_nil _ _ _ _, m3⟩
        · by_cases hm : many < leastP sh2
          · skip
            have e5 : decide (0 ≤ idxB sh2 115) = false := decide_eq_false h5
            have e7 : decide (0 ≤ idxB sh2 119) = false := decide_eq_false h7
            have hL : leastP sh2 = (sh2.size : Int) := if_neg (by rintro (h | h); exact h5 h; exact h7 h)
            have hk1 : (st.kind == 0) = false := by simp [hk]
            have hm1 : decide (many < (sh2.size : Int)) = true := decide_eq_true (by rw [← hL]; exact hm)
            have hD : Hid (rdDone ⟨st, (sh1, sh2), many⟩ = (noStp, false)) := if_pos (.inr hm)
            clear hL hk hm h5 h7
            gi_wp2_with (first
              | (refine wpListIn_agg rfl 95 (.tmp 5) rfl rfl (cs := [.string sh1, .string sh2]) agg_shape hsh ?_)
              | (refine ⟨trivial, ?_⟩; gi_at_call 50; refine (callsIn_wide.2 (HH 115 _).out).mono ?_; rintro e w1 ⟨rfl, k1⟩; rw [e5]; have hsh1 := (HA.out.keep0 k1).sh.cellsAt)
              | (refine wpListIn_agg_w (by rfl) 95 (.tmp 5) rfl rfl (cs := [.string sh1, .string sh2]) agg_shape hsh1 ?_)
              | (refine wpListIn_call_w open_wide (by rfl) (f := 50) rfl (by simp only [List.map_toArray, List.map_cons, List.map_nil]; rfl) Try.func50 (by kernel_rfl) (by kernel_rfl) (HH 119 _).out ?_; rintro e w2 ⟨rfl, k2⟩; refine ⟨_, rfl, ?_⟩; rw [e7]; have k1 := k1.then k2; have hA1 := HA.out.keep0 k1; have cA1 := hA1.own.blk.cell 0; have cA2 := hA1.many.cell 0; have hI1 : CellsAt w2 (w.heap.size + 2) 0 (ownCells st vs vw) := hA1.own.blk.cellsAt; simp [ownCells] at cA1 cA2)
              | (refine ⟨trivial, ?_⟩; go_at_K)
              | (refine stopIn_store 45 (.tmp 2) (.tmp 91) rfl ?_))
            constructor
            refine wpListIn_store_all rfl 45 (.tmp 2) (.tmp 91) rfl rfl rfl (vs := zStep) agg_step.2 hA1.res zStep_one rfl ?_
            intro w4 d4 k4
            have b4 := hA1.ok.keep k4 (by simp)
            have c4 := b4.cell 0
            have f4 := b4.frozen 0
            simp at c4
            have HD4 := Lib.hid d4
            have HK4 := Lib.hid k4
            have HA1 := Lib.hid hA1
            clear cA1 cA2 hI1 k4 d4 hA1
            gi_wp2
            have k5 := keep_set w4 (w.heap.size + 1) 0 (.bool false)
            have e1 := HD4.out.keep k5 (by simp)
            have e2 := b4.set_ 0 (.bool false)
            have kk := (k1.mono (G := [w.heap.size, w.heap.size + 1]) (by simp)).trans ((HK4.out.mono (G := [w.heap.size, w.heap.size + 1]) (by simp)).trans k5 (by simp)) (fun y hy _ => hy)
            have hD3 := (kk.block D (Array.getElem?_eq_some_iff.1 hD2).1 (by simp; omega)).trans hD2
            refine ⟨by simp, .inl ⟨_, _, rfl, run_takeDeferred hD3, ?_⟩⟩
            have m1 := blk_putObj (.deferred none) e1 hD3 rfl
            have m2 := (blk_putObj (.deferred none) e2 hD3 rfl).cell 0
            have m3 := ((HA.out.keep.trans kk (fun y hy hlt => by simp at hy; omega)).trans (keep_putObj _ D (.deferred none)) (fun y hy hlt => by simp at hy; omega) : Keep [] w _)
            simp at m2
            refine ⟨_, st_results_cc rfl _ rfl rfl m1 agg_step (v := .bool false) (by simp [go_sem, m2]), ?_⟩
            rw [HR.out, hD.out]
            exact ⟨.slice none 0 0, .slice none 0 0, rfl, World.ownsRow_nil _ _ _ _, World.ownsRow_nil _ _ _ _, m3⟩
          · skip
            have e5 : decide (0 ≤ idxB sh2 115) = false := decide_eq_false h5
            have e7 : decide (0 ≤ idxB sh2 119) = false := decide_eq_false h7
            have hL : leastP sh2 = (sh2.size : Int) := if_neg (by rintro (h | h); exact h5 h; exact h7 h)
            have hk1 : (st.kind == 0) = false := by simp [hk]
            have hm1 : decide (many < (sh2.size : Int)) = false := decide_eq_false (by rw [← hL]; exact hm)
            have hD : Hid (rdDone ⟨st, (sh1, sh2), many⟩ = (st, true)) := if_neg (by rintro (h | h); exact hk h; exact hm h)
            clear hL hk hm h5 h7
            gi_wp2_with (first
              | (refine wpListIn_agg rfl 95 (.tmp 5) rfl rfl (cs := [.string sh1, .string sh2]) agg_shape hsh ?_)
              | (refine ⟨trivial, ?_⟩; gi_at_call 50; refine (callsIn_wide.2 (HH 115 _).out).mono ?_; rintro e w1 ⟨rfl, k1⟩; rw [e5]; have hsh1 := (HA.out.keep0 k1).sh.cellsAt)
              | (refine wpListIn_agg_w (by rfl) 95 (.tmp 5) rfl rfl (cs := [.string sh1, .string sh2]) agg_shape hsh1 ?_)
              | (refine wpListIn_call_w open_wide (by rfl) (f := 50) rfl (by simp only [List.map_toArray, List.map_cons, List.map_nil]; rfl) Try.func50 (by kernel_rfl) (by kernel_rfl) (HH 119 _).out ?_; rintro e w2 ⟨rfl, k2⟩; refine ⟨_, rfl, ?_⟩; rw [e7]; have k1 := k1.then k2; have hA1 := HA.out.keep0 k1; have cA1 := hA1.own.blk.cell 0; have cA2 := hA1.many.cell 0; have hI1 : CellsAt w2 (w.heap.size + 2) 0 (ownCells st vs vw) := hA1.own.blk.cellsAt; simp [ownCells] at cA1 cA2)
              | (refine ⟨trivial, ?_⟩; go_at_K)
              | (refine wpListIn_agg rfl 45 (.tmp 4) rfl rfl (cs := ownCells st vs vw) agg_step hI1 ?_)
              | (refine stopIn_store 45 (.tmp 2) (.tmp 92) rfl ?_))
            constructor
            refine wpListIn_store_all rfl 45 (.tmp 2) (.tmp 92) rfl rfl rfl (vs := ownCells st vs vw) agg_step.2 hA1.res hone rfl ?_
            intro w4 d4 k4
            have b4 := hA1.ok.keep k4 (by simp)
            have c4 := b4.cell 0
            have f4 := b4.frozen 0
            simp at c4
            have HD4 := Lib.hid d4
            have HK4 := Lib.hid k4
            have HA1 := Lib.hid hA1
            clear cA1 cA2 hI1 k4 d4 hA1
            gi_wp2
            have k5 := keep_set w4 (w.heap.size + 1) 0 (.bool true)
            have e1 := HD4.out.keep k5 (by simp)
            have e2 := b4.set_ 0 (.bool true)
            have kk := (k1.mono (G := [w.heap.size, w.heap.size + 1]) (by simp)).trans ((HK4.out.mono (G := [w.heap.size, w.heap.size + 1]) (by simp)).trans k5 (by simp)) (fun y hy _ => hy)
            have hD3 := (kk.block D (Array.getElem?_eq_some_iff.1 hD2).1 (by simp; omega)).trans hD2
            refine ⟨by simp, .inl ⟨_, _, rfl, run_takeDeferred hD3, ?_⟩⟩
            have m1 := blk_putObj (.deferred none) e1 hD3 rfl
            have m2 := (blk_putObj (.deferred none) e2 hD3 rfl).cell 0
            have m3 := ((HA.out.keep.trans kk (fun y hy hlt => by simp at hy; omega)).trans (keep_putObj _ D (.deferred none)) (fun y hy hlt => by simp at hy; omega) : Keep [] w _)
            simp at m2
            refine ⟨_, st_results_cc rfl _ rfl rfl m1 agg_step (v := .bool true) (by simp [go_sem, m2]), ?_⟩
            rw [HR.out, hD.out]
            have n0 := (HA.out.own.keep0 k1)
            have n1 : ∀ g, vs.ownBlock = some g → g ∉ [w.heap.size, w.heap.size + 1] := fun g hg hm => by have := row_base n0.secs g (by simp [hg]); simp at hm; omega
            have n2 : ∀ g, vw.ownBlock = some g → g ∉ [w.heap.size, w.heap.size + 1] := fun g hg hm => by have := row_base n0.words g (by simp [hg]); simp at hm; omega
            have kk2 : Keep [w.heap.size, w.heap.size + 1] w2 _ := (HK4.out.mono (by simp)).trans k5 (by simp)
            exact ⟨vs, vw, rfl, own_base (own_putObj (.deferred none) (own_keep n0.secs kk2 n1) hD3 rfl) (by omega), own_base (own_putObj (.deferred none) (own_keep n0.words kk2 n2) hD3 rfl) (by omega), m3⟩
  case stop =>
    rintro D c pre W hD hpre ⟨rfl, hX⟩ hD2
    have HM := Lib.hid (rdFold_prefix hpre hX.none_)
    have cr := hX.ok.cell 0
    simp at cr
    have HX := Lib.hid hX
    clear hX
    gi_wp2
    refine ⟨by simp, .inl ⟨_, _, rfl, run_takeDeferred hD2, ?_⟩⟩
    have m1 := blk_putObj (.deferred none) HX.out.res hD2 rfl
    have m2 := (blk_putObj (.deferred none) HX.out.ok hD2 rfl).cell 0
    have m3 := HX.out.keep.trans (keep_putObj _ D (.deferred none)) (fun y hy hlt => by simp at hy; omega)
    simp at m2
    refine ⟨_, st_results_cc rfl _ rfl rfl m1 agg_step (v := .bool false) (by simp [go_sem, m2]), ?_⟩
    have hr : readS s = (noStp, false) := by unfold readS; rw [HM.out]
    rw [hr]
    exact ⟨.slice none 0 0, .slice none 0 0, rfl, World.ownsRow_nil _ _ _ _, World.ownsRow_nil _ _ _ _, m3⟩
end Go.Proofs.Ytoepkhkaifgddaa
