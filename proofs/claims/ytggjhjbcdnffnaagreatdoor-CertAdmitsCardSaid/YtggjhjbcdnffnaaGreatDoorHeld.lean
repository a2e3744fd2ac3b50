/- Steps of a region that draws its order, under a condition S, the operations guarded or not; no condition. -/
import Derived.Test.YtggjhjbcdnffnaaGreatDoorReg
namespace Go.Proofs.YtggjhjbcdnffnaaGreatDoor
open Go.RowKit

/-- At a panic what the frame holds does not count. -/
def PanOk (Q : Exit → Act → World → Prop) : Prop := ∀ c a d v w, Q (.panic c) (Act.put a d v) w → Q (.panic c) a w
section
variable {P : Program} {ops : Array Oper} {Q : Exit → Act → World → Prop} {md : Region.Mode} {S : World → Prop} {fuel : Nat} {listed : Array Bool} {a : Act} {w : World}
theorem hg_start {id : Nat} (S : World → Prop) (hm : P.follows .mixedOrders = true) (hS : S w.drew) (hQ : PanOk Q)
    (h : S w.drew → PanOk Q → wpAnyH P .any ops Q S ops.size (Array.replicate ops.size false) a w.drew) : (Code.region id ops true).wp P Q a w :=
  wp_region_held_drew hm hS (fun hS => h hS hQ)
variable (i : Nat) {dst : Option Tmp} {op : Op} {tyy : TypeId} {pos : String} {after : Array Edge} {gd : Option (Nat × Bool)}
/-- An operation that yields its value in every world that meets S. -/
theorem hg_val {v : Value} (hi : ops[i]? = some ⟨dst, op, tyy, pos, after, gd⟩) (hs : Region.noSelect ops = true) (hf : Region.free md ops listed i = true) (hr : (Region.ready md ops listed).contains i = true) (hw : Region.wanted ⟨dst, op, tyy, pos, after, gd⟩ (yielded ops a.tmps) = true)
    (hQ : PanOk Q) (hy : ∀ w, S w → (execOp a.eval ⟨dst, op, tyy, pos, after, gd⟩).run P w = .ok (.value v) w) (hS : S w)
    (h : wpAnyH P md ops Q S fuel (listed.setIfInBounds i true) (a.put dst v) w) : wpAnyH P md ops Q S (fuel + 1) listed a w :=
  wpAnyH_take hi hs hf hr (fun c a w => hQ c a _ _ w) (.inl ⟨hw, hy⟩) hS h
/-- A guarded operation that does not come about. -/
theorem hg_off (hi : ops[i]? = some ⟨dst, op, tyy, pos, after, gd⟩) (hs : Region.noSelect ops = true) (hf : Region.free md ops listed i = true) (hr : (Region.ready md ops listed).contains i = true) (hw : Region.wanted ⟨dst, op, tyy, pos, after, gd⟩ (yielded ops a.tmps) = false)
    (hQ : PanOk Q) (hS : S w)
    (h : wpAnyH P md ops Q S fuel (listed.setIfInBounds i true) (a.put dst undef) w) : wpAnyH P md ops Q S (fuel + 1) listed a w :=
  wpAnyH_take hi hs hf hr (fun c a w => hQ c a _ _ w) (.inr ⟨hw, rfl⟩) hS h
/-- A whole struct or array loaded. -/
theorem hg_agg (ty : TypeId) (x : Operand) (cs : List Value) (hi : ops[i]? = some ⟨dst, op, tyy, pos, after, gd⟩) (hs : Region.noSelect ops = true) (hf : Region.free md ops listed i = true) (hr : (Region.ready md ops listed).contains i = true) (hw : Region.wanted ⟨dst, op, tyy, pos, after, gd⟩ (yielded ops a.tmps) = true)
    (hQ : PanOk Q) (ho : op = .load ty x) {b f : Nat} (hx : a.eval x = .pointer (some ⟨b, f, none⟩)) (hA : AggOf P ty cs.length) (hc : ∀ w, S w → CellsAt w b f cs) (hS : S w)
    (h : wpAnyH P md ops Q S fuel (listed.setIfInBounds i true) (a.put dst (.agg cs.toArray)) w) : wpAnyH P md ops Q S (fuel + 1) listed a w :=
  hg_val i hi hs hf hr hw hQ (fun w' hw' => by
    unfold execOp
    simp only [ho, hx, Instr.loadAt, Instr.sureAddr, Sem.run_bind, Sem.run_pure, Result.andThen_ok, run_loadVar_agg hA (hc w' hw')]) hS h
/-- The one operation that may come up is a call of a Go function. -/
theorem hg_call {f : FuncId} {args : Array Operand} {ats : Array TypeId} {post : Ending → World → Prop} (hi : ops[i]? = some ⟨dst, op, tyy, pos, after, gd⟩) (hr : Region.ready md ops listed = [i]) (hw : Region.wanted ⟨dst, op, tyy, pos, after, gd⟩ (yielded ops a.tmps) = true)
    (ho : op = .call { callee := .value (.func f), args := args, argTypes := ats })
    {vs : Array Value} (hv : args.map a.eval = vs) {fn : Func} (hfn : P.funcs[f]? = some fn) (hnm : (fn.name == "runtime.NumGoroutine") = false) (hbd : fn.body.isNone = false) (hc : Calls P f vs w post)
    (h : ∀ e w', post e w' → ∃ v, e = .returned v ∧ S w' ∧ wpAnyH P md ops Q S fuel (listed.setIfInBounds i true) (a.put dst v) w') : wpAnyH P md ops Q S (fuel + 1) listed a w := by
  refine wpAnyH_ready hr (by simp) (AllReadyH.cons hi (fun K hK => ?_) AllReadyH.nil)
  rw [if_pos hw]
  subst hv
  unfold Oper.wp
  have e : (execOp a.eval ⟨dst, op, tyy, pos, after, gd⟩).run P w = .ok (.enter f (args.map a.eval)) w := by
    have hf : fn.body ≠ none := by intro h; rw [h] at hbd; cases hbd
    simp [execOp, ho, go_sem, callFunc, hfn, hf]
    simp at hnm
    simp [hnm]
  rw [e]
  show Calls P f _ w _
  refine hc.mono fun e w' hp => ?_
  obtain ⟨v, rfl, hS, hrest⟩ := h e w' hp
  exact hK.out _ _ hS (fun _ => hrest)
end
end Go.Proofs.YtggjhjbcdnffnaaGreatDoor
