/- Ranges over functions at the widest fence: what the iterator reads (the blocks C) the rounds keep. No condition. -/
import Derived.RangeFuncNested
import Derived.RangeFuncBound
import Derived.RangeFuncCalls
import Derived.RangeFuncLeaves
import Derived.Shelf.Abstract
import Derived.Shelf.RegionOpen
import Derived.WalkKit
import Derived.OwnWalkIn
import Derived.TacticsInMore
import Derived.LoopNIn
import Derived.LoopIn
import Derived.Maps.AppendAt
import Derived.WalkSpells
import Derived.WalkLawsBesides
import Derived.Test.YtajlkfhekligeaaBase
namespace Go.Proofs.Ytajlkfhekligeaa
open Go.RowKit

/-- The blocks of C hold what they held. -/
def Same (C : List Nat) (W W' : World) : Prop := ∀ k, k ∈ C → W'.heap[k]? = W.heap[k]?
theorem Same.refl (C : List Nat) (W : World) : Same C W W := fun _ _ => rfl
theorem Same.trans {C : List Nat} {A B D : World} (h : Same C A B) (k : Same C B D) : Same C A D := fun x hx => (k x hx).trans (h x hx)
theorem Same.turn {C : List Nat} {w : World} (hC : ∀ k, k ∈ C → k < w.heap.size) (W : World) (l : Nat) (o o' : Obj) (hl : w.heap.size ≤ l) (_ : W.heap[l]? = some o) (_ : o.isCells = false) (_ : o.isWalk = false) : Same C W (W.putObj l o') :=
  fun k hk => World.putObj_heap_other (by have := hC k hk; omega)
theorem Same.cell {C : List Nat} {W W' : World} (h : Same C W W') {p : Addr} (hp : p.block ∈ C) : W'.cell? p = W.cell? p := World.cell?_of_block (h _ hp)
theorem Same.keep {F C : List Nat} {W W' : World} (k : Keep F W W') (hC : ∀ x, x ∈ C → x < W.heap.size ∧ x ∉ F) : Same C W W' := fun x hx => k.block x (hC x hx).1 (hC x hx).2

/-- Keep is kept by new blocks and turns of blocks that hold no cells and lie beyond. -/
theorem keep_own {β : Type} {F : List Nat} {w : World} {B : Nat} (hB : w.heap.size ≤ B) : OwnFrom B (fun (_ : β) W => Keep F w W) :=
  fun _ X Y row hs hg hr => hs.trans (Keep.of_grown hg) (fun x hx hlt => by
    have := (hr x (by simpa using hx)).1
    omega)
theorem blk_own {β : Type} {B : Nat} (g t : Nat) (f : β → Array Value) : OwnFrom B (fun s W => Blk W g t (f s)) :=
  fun s X Y row hs hg hr => (hg.block g (Blk.lt hs) (fun e => by
    obtain ⟨_, o, ho, hc⟩ := hr g e.symm
    rw [show X.heap[g]? = _ from hs] at ho; cases ho; cases hc)).trans hs
theorem Keep.from {F : List Nat} {B : Nat} {W W' : World} (k : Keep F W W') (hF : ∀ x, x ∈ F → x < B ∨ ∃ cs t fr, W.heap[x]? = some (.cells cs t fr)) : KeepsFrom B W W' :=
  ⟨k.size, fun i o hi ho hc => (k.block i (Array.getElem?_eq_some_iff.1 ho).1 (fun hx => by
    rcases hF i hx with h | ⟨cs, t, fr, h⟩
    · omega
    · rw [ho] at h; cases h; cases hc)).trans ho⟩
theorem Keep.from0 {B : Nat} {W W' : World} (k : Keep [] W W') : KeepsFrom B W W' := k.from (by simp)
theorem own_cells {w : World} {base : Nat} {e : TypeId} {size n : Nat} {v : Value} {xs : List Value} (h : w.ownsRow base e size v n xs) : ∀ x, x ∈ v.ownBlock.toList → ∃ cs t fr, w.heap[x]? = some (.cells cs t fr) := by
  intro x hx
  rcases h.2 with ⟨rfl, _⟩ | ⟨g, cap, cur, rfl, _, hh, _⟩
  · simp [Value.ownBlock] at hx
  · simp [Value.ownBlock] at hx
    subst hx
    exact ⟨_, _, _, hh⟩
theorem ownsRow_own {β : Type} {B : Nat} (base e size : Nat) (v : β → Value) (n : β → Nat) (xs : β → List Value) : OwnFrom B (fun s W => W.ownsRow base e size (v s) (n s) (xs s)) :=
  fun s X Y row hs hg hr => own_keep hs (Keep.of_grown hg) (fun g hgb hx => by
    obtain ⟨_, o, ho, hc⟩ := hr g (by simpa using hx)
    obtain ⟨cs, t, fr, hh⟩ := own_cells hs g (by simp [hgb])
    rw [ho] at hh; cases hh; cases hc)

section
variable {P : Program} {ops : Array Oper} {rest : List Oper} {o : Oper} {a : Act} {Q : Exit → Act → World → Prop} {wr : World} {e : TypeId} {F : Fence} {n' : Nat}
/-- 'out = append(out, x)' of one element, in a round. -/
theorem wpListIn_append_one {us : List Value}
    (hgd : o.guard = none) (s x : Operand) (t : TypeId) (ho : o.op = .call { callee := .builtin .append, args := #[s, x], argTypes := #[t, t] })
    {size bytes : Nat} (hS : SliceOf P t e size bytes) {B : Nat} {v : Value} {n : Nat} {xs : List Value} (hown : wr.ownsRow B e size v n xs) (hs : a.eval s = v) (hx : a.eval x = .slice (some ⟨wr.heap.size, 0, none⟩) 1 1)
    (hl : us.length = size) (h1 : ∀ u ∈ us, u.oneCell' = true) (hB : B ≤ wr.heap.size) (hb : (n + 1) * bytes ≤ 140737488355328) (h63 : n + 1 ≤ maxLen)
    (h : ∀ v' w', w'.ownsRow B e size v' (n + 1) (xs ++ us) → Keep v.ownBlock.toList wr w' → (v'.ownBlock = v.ownBlock ∨ v'.ownBlock = some (wr.heap.size + 1)) → wpListIn F n' P ops Q rest (a.put o.dst v') w') :
    wpListIn F n' P ops Q (o :: rest) a (wr.alloc (.cells us.toArray e)) := by
  obtain ⟨ht, ⟨i, z, hi, hz, hsz, hby, hzs⟩, hpos⟩ := hS.parts
  obtain ⟨v', w', hr, h2, h3, _, h5⟩ := run_append_own_at (P := P) (wr.alloc (.cells us.toArray e)) B t o.type e i z size bytes ht hi hz hsz hby hzs hpos v n xs (hown.alloc _) ⟨wr.heap.size, 0, none⟩ 1 1 us (by simpa using hl)
    (by
      intro j u hu
      rw [add_of_block]
      show World.cell? _ _ = _
      simp only [World.cell?, heap_alloc_new]
      simpa using hu) h1 h63 hb (by simp; omega)
  refine wpListIn_plain hgd fun K hK' => ?_
  unfold Oper.wpIn
  refine ⟨?_, ?_⟩
  · simp [Oper.about, ho, resolve, Target.leads, Sem.run_pure]
  · rw [Oper.semAt_plain F _ _ (by rw [ho]; intro c hc'; cases hc')]
    simp [execOp, ho, resolve, invoke, builtin, hs, hx, hr, Result.andThen]
    exact hK' _ _ (h v' w' h2 (((Keep.refl _ wr).alloc _).trans (Keep.of_grown h3) (fun x hx _ => hx)) (by simpa using h5))
end

theorem run_neq_func_nil {P : Program} {t : TypeId} {ps rs : Array TypeId} {vr : Bool} (ht : P.underlying t = some (.func ps rs vr)) (f : Fn) (x y : Array Value) (w : World) :
    (binOp .neq t (.func f x y) .nilFunc).run P w = .ok (.bool true) w := by
  have h : ∀ d : Nat, (Op.equalIn (d + 1) t (.func f x y) .nilFunc).run P w = .ok false w := fun d => by
    simp [Op.equalIn, run_underlying ht]
  simp only [binOp]
  simp [Op.equal, Op.maxDepth, h 9999]

theorem keep_putObj (W : World) (D : Nat) (o : Obj) : Keep [D] W (W.putObj D o) := Keep.of_grown (grownBy_putObj' W D o)
theorem own_putObj {W : World} {D : Nat} {o : Obj} (o' : Obj) {base : Nat} {e : TypeId} {size n : Nat} {v : Value} {xs : List Value} (h : W.ownsRow base e size v n xs) (hD : W.heap[D]? = some o) (ho : o.isCells = false) : (W.putObj D o').ownsRow base e size v n xs :=
  own_keep h (keep_putObj W D o') (fun g hg hm => by
    simp at hm; subst hm
    obtain ⟨cs, t, fr, hh⟩ := own_cells h g (by simp [hg])
    rw [hD] at hh; cases hh; cases ho)
theorem blk_putObj {W : World} {D : Nat} {o : Obj} (o' : Obj) {g : Nat} {t : TypeId} {cs : Array Value} (h : Blk W g t cs) (hD : W.heap[D]? = some o) (ho : o.isCells = false) : Blk (W.putObj D o') g t cs :=
  h.keep (keep_putObj W D o') (fun hm => by
    simp at hm; subst hm
    rw [show W.heap[g]? = _ from h] at hD; cases hD; cases ho)
end Go.Proofs.Ytajlkfhekligeaa
