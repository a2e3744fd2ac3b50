/- Ranges over functions at the widest fence: what the iterator reads (the blocks C) the rounds keep. No condition. Whole structs loaded, and several values appended, in a round of a range over a function; pairs of ints. No condition. Iterators that go through a known row: each round is told that what it is handed stands in the row. No condition. -/
import Derived.RangeFuncNested
import Derived.RangeFuncBound
import Derived.RangeFuncCalls
import Derived.RangeFuncLeaves
import Derived.Shelf.Abstract
import Derived.Shelf.RegionOpen
import Derived.WalkKit
import Derived.OwnWalkIn
import Derived.TacticsInMore
import Derived.LoopNIn
import Derived.LoopIn
import Derived.Maps.AppendAt
import Derived.WalkSpells
import Derived.WalkLawsBesides
import Derived.Test.YteflgdnekflbbaaDoorBase
import Derived.Test.YteflgdnekflbbaaDoorEqI
namespace Go.Proofs.YteflgdnekflbbaaDoor
open Go.RowKit

/-- The blocks of C hold what they held. -/
def Same (C : List Nat) (W W' : World) : Prop := ∀ k, k ∈ C → W'.heap[k]? = W.heap[k]?
theorem Same.refl (C : List Nat) (W : World) : Same C W W := fun _ _ => rfl
theorem Same.trans {C : List Nat} {A B D : World} (h : Same C A B) (k : Same C B D) : Same C A D := fun x hx => (k x hx).trans (h x hx)
theorem Same.turn {C : List Nat} {w : World} (hC : ∀ k, k ∈ C → k < w.heap.size) (W : World) (l : Nat) (o o' : Obj) (hl : w.heap.size ≤ l) (_ : W.heap[l]? = some o) (_ : o.isCells = false) (_ : o.isWalk = false) : Same C W (W.putObj l o') :=
  fun k hk => World.putObj_heap_other (by have := hC k hk; omega)
theorem Same.cell {C : List Nat} {W W' : World} (h : Same C W W') {p : Addr} (hp : p.block ∈ C) : W'.cell? p = W.cell? p := World.cell?_of_block (h _ hp)
theorem Same.keep {F C : List Nat} {W W' : World} (k : Keep F W W') (hC : ∀ x, x ∈ C → x < W.heap.size ∧ x ∉ F) : Same C W W' := fun x hx => k.block x (hC x hx).1 (hC x hx).2

/-- Keep is kept by new blocks and turns of blocks that hold no cells and lie beyond. -/
theorem keep_own {β : Type} {F : List Nat} {w : World} {B : Nat} (hB : w.heap.size ≤ B) : OwnFrom B (fun (_ : β) W => Keep F w W) :=
  fun _ X Y row hs hg hr => hs.trans (Keep.of_grown hg) (fun x hx hlt => by
    have := (hr x (by simpa using hx)).1
    omega)
theorem blk_own {β : Type} {B : Nat} (g t : Nat) (f : β → Array Value) : OwnFrom B (fun s W => Blk W g t (f s)) :=
  fun s X Y row hs hg hr => (hg.block g (Blk.lt hs) (fun e => by
    obtain ⟨_, o, ho, hc⟩ := hr g e.symm
    rw [show X.heap[g]? = _ from hs] at ho; cases ho; cases hc)).trans hs
theorem Keep.from {F : List Nat} {B : Nat} {W W' : World} (k : Keep F W W') (hF : ∀ x, x ∈ F → x < B ∨ ∃ cs t fr, W.heap[x]? = some (.cells cs t fr)) : KeepsFrom B W W' :=
  ⟨k.size, fun i o hi ho hc => (k.block i (Array.getElem?_eq_some_iff.1 ho).1 (fun hx => by
    rcases hF i hx with h | ⟨cs, t, fr, h⟩
    · omega
    · rw [ho] at h; cases h; cases hc)).trans ho⟩
theorem Keep.from0 {B : Nat} {W W' : World} (k : Keep [] W W') : KeepsFrom B W W' := k.from (by simp)
theorem own_cells {w : World} {base : Nat} {e : TypeId} {size n : Nat} {v : Value} {xs : List Value} (h : w.ownsRow base e size v n xs) : ∀ x, x ∈ v.ownBlock.toList → ∃ cs t fr, w.heap[x]? = some (.cells cs t fr) := by
  intro x hx
  rcases h.2 with ⟨rfl, _⟩ | ⟨g, cap, cur, rfl, _, hh, _⟩
  · simp [Value.ownBlock] at hx
  · simp [Value.ownBlock] at hx
    subst hx
    exact ⟨_, _, _, hh⟩
theorem ownsRow_own {β : Type} {B : Nat} (base e size : Nat) (v : β → Value) (n : β → Nat) (xs : β → List Value) : OwnFrom B (fun s W => W.ownsRow base e size (v s) (n s) (xs s)) :=
  fun s X Y row hs hg hr => own_keep hs (Keep.of_grown hg) (fun g hgb hx => by
    obtain ⟨_, o, ho, hc⟩ := hr g (by simpa using hx)
    obtain ⟨cs, t, fr, hh⟩ := own_cells hs g (by simp [hgb])
    rw [ho] at hh; cases hh; cases hc)

section
variable {P : Program} {ops : Array Oper} {rest : List Oper} {o : Oper} {a : Act} {Q : Exit → Act → World → Prop} {wr : World} {e : TypeId} {F : Fence} {n' : Nat}
/-- 'out = append(out, x)' of one element, in a round. -/
theorem wpListIn_append_one {us : List Value}
    (hgd : o.guard = none) (s x : Operand) (t : TypeId) (ho : o.op = .call { callee := .builtin .append, args := #[s, x], argTypes := #[t, t] })
    {size bytes : Nat} (hS : SliceOf P t e size bytes) {B : Nat} {v : Value} {n : Nat} {xs : List Value} (hown : wr.ownsRow B e size v n xs) (hs : a.eval s = v) (hx : a.eval x = .slice (some ⟨wr.heap.size, 0, none⟩) 1 1)
    (hl : us.length = size) (h1 : ∀ u ∈ us, u.oneCell' = true) (hB : B ≤ wr.heap.size) (hb : (n + 1) * bytes ≤ 140737488355328) (h63 : n + 1 ≤ maxLen)
    (h : ∀ v' w', w'.ownsRow B e size v' (n + 1) (xs ++ us) → Keep v.ownBlock.toList wr w' → (v'.ownBlock = v.ownBlock ∨ v'.ownBlock = some (wr.heap.size + 1)) → wpListIn F n' P ops Q rest (a.put o.dst v') w') :
    wpListIn F n' P ops Q (o :: rest) a (wr.alloc (.cells us.toArray e)) := by
  obtain ⟨ht, ⟨i, z, hi, hz, hsz, hby, hzs⟩, hpos⟩ := hS.parts
  obtain ⟨v', w', hr, h2, h3, _, h5⟩ := run_append_own_at (P := P) (wr.alloc (.cells us.toArray e)) B t o.type e i z size bytes ht hi hz hsz hby hzs hpos v n xs (hown.alloc _) ⟨wr.heap.size, 0, none⟩ 1 1 us (by simpa using hl)
    (by
      intro j u hu
      rw [add_of_block]
      show World.cell? _ _ = _
      simp only [World.cell?, heap_alloc_new]
      simpa using hu) h1 h63 hb (by simp; omega)
  refine wpListIn_plain hgd fun K hK' => ?_
  unfold Oper.wpIn
  refine ⟨?_, ?_⟩
  · simp [Oper.about, ho, resolve, Target.leads, Sem.run_pure]
  · rw [Oper.semAt_plain F _ _ (by rw [ho]; intro c hc'; cases hc')]
    simp [execOp, ho, resolve, invoke, builtin, hs, hx, hr, Result.andThen]
    exact hK' _ _ (h v' w' h2 (((Keep.refl _ wr).alloc _).trans (Keep.of_grown h3) (fun x hx _ => hx)) (by simpa using h5))
end

theorem run_neq_func_nil {P : Program} {t : TypeId} {ps rs : Array TypeId} {vr : Bool} (ht : P.underlying t = some (.func ps rs vr)) (f : Fn) (x y : Array Value) (w : World) :
    (binOp .neq t (.func f x y) .nilFunc).run P w = .ok (.bool true) w := by
  have h : ∀ d : Nat, (Op.equalIn (d + 1) t (.func f x y) .nilFunc).run P w = .ok false w := fun d => by
    simp [Op.equalIn, run_underlying ht]
  simp only [binOp]
  simp [Op.equal, Op.maxDepth, h 9999]

theorem keep_putObj (W : World) (D : Nat) (o : Obj) : Keep [D] W (W.putObj D o) := Keep.of_grown (grownBy_putObj' W D o)
theorem own_putObj {W : World} {D : Nat} {o : Obj} (o' : Obj) {base : Nat} {e : TypeId} {size n : Nat} {v : Value} {xs : List Value} (h : W.ownsRow base e size v n xs) (hD : W.heap[D]? = some o) (ho : o.isCells = false) : (W.putObj D o').ownsRow base e size v n xs :=
  own_keep h (keep_putObj W D o') (fun g hg hm => by
    simp at hm; subst hm
    obtain ⟨cs, t, fr, hh⟩ := own_cells h g (by simp [hg])
    rw [hD] at hh; cases hh; cases ho)
theorem blk_putObj {W : World} {D : Nat} {o : Obj} (o' : Obj) {g : Nat} {t : TypeId} {cs : Array Value} (h : Blk W g t cs) (hD : W.heap[D]? = some o) (ho : o.isCells = false) : Blk (W.putObj D o') g t cs :=
  h.keep (keep_putObj W D o') (fun hm => by
    simp at hm; subst hm
    rw [show W.heap[g]? = _ from h] at hD; cases hD; cases ho)
end Go.Proofs.YteflgdnekflbbaaDoor

namespace Go.Proofs.YteflgdnekflbbaaDoor
open Go.RowKit
attribute [local go_sem] Oper.semAt_some

section
variable {P : Program} {ops : Array Oper} {rest : List Oper} {o : Oper} {a : Act} {Q : Exit → Act → World → Prop} {w : World} {F : Fence} {n' : Nat}
/-- A whole struct or array loaded, in a round. -/
theorem wpListIn_agg (hgd : o.guard = none) (ty : TypeId) (x : Operand) (ho : o.op = .load ty x) {b f : Nat} (hx : a.eval x = .pointer (some ⟨b, f, none⟩)) {cs : List Value} (hA : AggOf P ty cs.length) (hc : CellsAt w b f cs)
    (h : wpListIn F n' P ops Q rest (a.put o.dst (.agg cs.toArray)) w) : wpListIn F n' P ops Q (o :: rest) a w := by
  refine wpListIn_plain hgd fun K hK => ?_
  unfold Oper.wpIn
  refine ⟨?_, ?_⟩
  · simp [Oper.about, ho]
  · rw [Oper.semAt_plain F _ _ (by rw [ho]; intro c hc'; cases hc')]
    simp only [execOp, ho, hx, Instr.loadAt, Instr.sureAddr, Sem.run_bind, Sem.run_pure, Result.andThen_ok, run_loadVar_agg hA hc]
    exact hK _ _ h
/-- 'out = append(out, x, y, ..)', in a round. -/
theorem wpListIn_app_lit {e : TypeId} {wr : World} {us : List Value} (m : Nat)
    (hgd : o.guard = none) (s x : Operand) (t : TypeId) (ho : o.op = .call { callee := .builtin .append, args := #[s, x], argTypes := #[t, t] })
    {size bytes : Nat} (hS : SliceOf P t e size bytes) {B : Nat} {v : Value} {n : Nat} {xs : List Value} (hown : wr.ownsRow B e size v n xs) (hs : a.eval s = v) (hx : a.eval x = .slice (some ⟨wr.heap.size, 0, none⟩) m m)
    (hl : us.length = m * size) (h1 : ∀ u ∈ us, u.oneCell' = true) (hB : B ≤ wr.heap.size) (hb : (n + m) * bytes ≤ 140737488355328) (h63 : n + m ≤ maxLen)
    (h : ∀ v' w', w'.ownsRow B e size v' (n + m) (xs ++ us) → Keep v.ownBlock.toList wr w' → (v'.ownBlock = v.ownBlock ∨ v'.ownBlock = some (wr.heap.size + 1)) → wpListIn F n' P ops Q rest (a.put o.dst v') w') :
    wpListIn F n' P ops Q (o :: rest) a (wr.alloc (.cells us.toArray e)) := by
  obtain ⟨ht, ⟨i, z, hi, hz, hsz, hby, hzs⟩, hpos⟩ := hS.parts
  obtain ⟨v', w', hr, h2, h3, _, h5⟩ := run_append_own_at (P := P) (wr.alloc (.cells us.toArray e)) B t o.type e i z size bytes ht hi hz hsz hby hzs hpos v n xs (hown.alloc _) ⟨wr.heap.size, 0, none⟩ m m us hl
    (by
      intro j u hu
      rw [add_of_block]
      show World.cell? _ _ = _
      simp only [World.cell?, heap_alloc_new]
      simpa using hu) h1 h63 hb (by simp; omega)
  refine wpListIn_plain hgd fun K hK' => ?_
  unfold Oper.wpIn
  refine ⟨?_, ?_⟩
  · simp [Oper.about, ho, resolve, Target.leads, Sem.run_pure]
  · rw [Oper.semAt_plain F _ _ (by rw [ho]; intro c hc'; cases hc')]
    simp [execOp, ho, resolve, invoke, builtin, hs, hx, hr, Result.andThen]
    exact hK' _ _ (h v' w' h2 (((Keep.refl _ wr).alloc _).trans (Keep.of_grown h3) (fun x hx _ => hx)) (by simpa using h5))
end

/-- Pairs of ints, as an iterator hands them on. -/
abbrev PII := Int × Int
def encPII (x : PII) : Array Value := #[.int .i64 x.1, .int .i64 x.2]
def flatP (l : List PII) : List Int := l.flatMap (fun x => [x.1, x.2])
theorem flatP_len (l : List PII) : (flatP l).length = 2 * l.length := by
  induction l with
  | nil => rfl
  | cons a l ih => simp only [flatP, List.flatMap_cons, List.length_append, List.length_cons, List.length_nil] at *; omega
theorem flatP_snoc (l : List PII) (x : PII) : flatP (l ++ [x]) = flatP l ++ [x.1, x.2] := by simp [flatP]
end Go.Proofs.YteflgdnekflbbaaDoor

namespace Go.Proofs.YteflgdnekflbbaaDoor
open Go.RowKit

/-- The iterator goes through the row xs, as far as it is asked. -/
def SeqP {α : Type} (F : Fence) (n : Nat) (P : Program) (g : Nat) (lb : Array Value) (encs : α → Array Value) (Kp : World → World → Prop) (xs : List α) (w : World) : Prop :=
  ∀ (l : Nat) (J Jx : List α → World → Prop) (W : World), Below w.heap.size w W → AbidesFrom W.heap.size J → AbidesFrom W.heap.size Jx →
    (∀ pre x W1, J pre W1 → pre ++ [x] <+: xs → YieldAt F (n - 1) P l (encs x) W1 fun e W' =>
      (e = .returned (.bool true) ∧ J (pre ++ [x]) W' ∧ Kp W1 W') ∨ (e = .returned (.bool false) ∧ Jx (pre ++ [x]) W')) →
    J [] W →
    CallsIn F n P g (#[.func (.yield l) #[] #[]] ++ lb) W fun e W' => (∃ v, e = .returned v) ∧ (J xs W' ∨ ∃ pre, pre <+: xs ∧ Jx pre W')

/-- What has been handed on. -/
def outs {α : Type} {xs : List α} (l : List {x // x ∈ xs}) : List α := l.map Subtype.val
theorem outs_nil {α : Type} {xs : List α} : outs ([] : List {x // x ∈ xs}) = [] := rfl
theorem outs_snoc {α : Type} {xs : List α} (l : List {x // x ∈ xs}) (y : {x // x ∈ xs}) : outs (l ++ [y]) = outs l ++ [y.1] := by unfold outs; rw [List.map_append]; rfl
theorem outs_length {α : Type} {xs : List α} (l : List {x // x ∈ xs}) : (outs l).length = l.length := by unfold outs; rw [List.length_map]

section
variable {α : Type} {F : Fence} {n : Nat} {P : Program} {g : Nat} {lb : Array Value} {encs : α → Array Value} {Kp : World → World → Prop} {xs : List α} {w : World}
theorem SeqP.stops (h : SeqP F n P g lb encs Kp xs w) : SeqStopsK F n P g lb encs Kp (fun ys => ys = xs) (fun pre => pre <+: xs) xs.length w := by
  intro l J Jx W hW hJ hJx hY h0
  refine (h l J Jx W hW hJ hJx (fun pre x W1 hj hp => hY pre x W1 hj (by have := hp.length_le; simp at this; omega)) h0).mono ?_
  rintro e W' ⟨hv, hj | ⟨pre, hp, hj⟩⟩
  · exact ⟨hv, .inl ⟨xs, rfl, hj⟩⟩
  · exact ⟨hv, .inr ⟨pre, hp, hj⟩⟩
/-- Each round is told that what it is handed stands in the row. -/
theorem SeqP.sub (h : SeqP F n P g lb encs Kp xs w) :
    SeqStopsK F n P g lb (fun y : {x // x ∈ xs} => encs y.1) Kp (fun ys => outs ys = xs) (fun pre => outs pre <+: xs) xs.length w := by
  intro l J Jx W hW hJ hJx hY h0
  refine (h l (fun pre W => ∃ pre' : List {x // x ∈ xs}, outs pre' = pre ∧ J pre' W) (fun pre W => ∃ pre' : List {x // x ∈ xs}, outs pre' = pre ∧ Jx pre' W) W hW ?_ ?_ ?_ ⟨[], rfl, h0⟩).mono ?_
  · rintro pre A B row ⟨pre', e, hj⟩ hg hr
    exact ⟨pre', e, hJ pre' A B row hj hg hr⟩
  · rintro pre A B row ⟨pre', e, hj⟩ hg hr
    exact ⟨pre', e, hJx pre' A B row hj hg hr⟩
  · rintro pre x W1 ⟨pre', e, hj⟩ hp
    have hx : x ∈ xs := hp.subset (by simp)
    obtain ⟨fn, tmps, assign, body, hy, hR⟩ := hY pre' ⟨x, hx⟩ W1 hj (by have := hp.length_le; rw [← e] at this; simp [outs_length] at this; omega)
    refine ⟨fn, tmps, assign, body, hy, hR.mono ?_⟩
    rintro e' W' (⟨he, hj', hk⟩ | ⟨he, hj'⟩)
    · exact .inl ⟨he, ⟨_, by rw [outs_snoc, e], hj'⟩, hk⟩
    · exact .inr ⟨he, ⟨_, by rw [outs_snoc, e], hj'⟩⟩
  · rintro e W' ⟨hv, ⟨pre', e', hj⟩ | ⟨pre, hp, pre', e', hj⟩⟩
    · exact ⟨hv, .inl ⟨pre', e', hj⟩⟩
    · exact ⟨hv, .inr ⟨pre', by show outs pre' <+: xs; rw [e']; exact hp, hj⟩⟩
end
end Go.Proofs.YteflgdnekflbbaaDoor
