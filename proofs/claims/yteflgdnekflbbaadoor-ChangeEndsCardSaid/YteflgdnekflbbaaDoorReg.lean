/- A mark that halts the walk at an operation, so that the step there is laid in plain sight; no condition. Steps of a region that draws its order, under a condition S on the world that each step keeps: laws for whole structs and for calls; no condition. -/
import Derived.Test.YteflgdnekflbbaaDoorEqI
import Derived.Deep.OwnRows
import Derived.Laws.MakeOwn
import Derived.Deep.RegionHeld3
namespace Go.Proofs.YteflgdnekflbbaaDoor
open Go.RowKit

/-- The walk halts here. -/
structure Stop (p : Prop) : Prop where
  go : p
section
variable {P : Program} {ops : Array Oper} {rest : List Oper} {o : Oper} {a : Act} {Q : Exit → Act → World → Prop} {w : World}
theorem stop_load (t : TypeId) (x : Operand) (_ho : o.op = .load t x) (h : Stop (wpList P ops Q (o :: rest) a w)) : wpList P ops Q (o :: rest) a w := h.go
theorem stop_store (t : TypeId) (x y : Operand) (_ho : o.op = .store t x y) (h : Stop (wpList P ops Q (o :: rest) a w)) : wpList P ops Q (o :: rest) a w := h.go
theorem stop_at (n : Tmp) (_hd : o.dst = some n) (h : Stop (wpList P ops Q (o :: rest) a w)) : wpList P ops Q (o :: rest) a w := h.go
theorem madeCells_rep (z : Value) (n : Nat) : madeCells #[z] n = (List.replicate n z).toArray := by
  rw [← toList_madeCells_one]
/-- 'make([]T, n)', T of one cell. -/
theorem wpList_make1 (hg : o.guard = none) (l c : Operand) (t : TypeId) (hop : o.op = Op.makeSlice t l c) (e : TypeId) (z : Value) (bytes : Nat) (ht : P.underlying t = some (.slice e)) (hinfo : (P.info? e).map (fun i => (i.zero, i.size, i.bytes)) = some (some z, 1, bytes)) (hz1 : z.cells = #[z])
    (n : Nat) (hl : a.eval l = .int .i64 (n : Int)) (hc : a.eval c = .int .i64 (n : Int)) (hbytes : bytes * n ≤ 281474976710656) (h63 : n ≤ 9223372036854775807)
    (h : wpList P ops Q rest (a.put o.dst (.slice (some ⟨w.heap.size, 0, none⟩) n n)) (w.alloc (.cells (List.replicate n z).toArray e))) : wpList P ops Q (o :: rest) a w := by
  refine wpList_plain hg fun K hK' => ?_
  have hrun := run_make_row' (P := P) t e z bytes ht hinfo hz1 .i64 .i64 n hbytes h63 w
  rw [madeCells_rep] at hrun
  unfold Oper.wp
  simp [execOp, hop, hl, hc, hrun, Result.andThen]
  exact hK' _ _ (by simpa using h)
end
end Go.Proofs.YteflgdnekflbbaaDoor

namespace Go.Proofs.YteflgdnekflbbaaDoor
open Go.RowKit

section
variable {P : Program} {ops : Array Oper} {Q : Exit → Act → World → Prop} {md : Region.Mode} {S : World → Prop} {fuel : Nat} {listed : Array Bool} {a : Act} {w : World}
variable (i : Nat) {dst : Option Tmp} {tyy : TypeId} {pos : String} {after : Array Edge}

/-- An operation that yields its value in every world that meets S. -/
theorem ah_take {op : Op} {v : Value} (hi : ops[i]? = some ⟨dst, op, tyy, pos, after, none⟩) (hs : Region.noSelect ops = true) (hf : Region.free md ops listed i = true) (hr : (Region.ready md ops listed).contains i = true)
    (hQ : ∀ c a w, Q (.panic c) (a.put dst v) w → Q (.panic c) a w) (hy : ∀ w, S w → (execOp a.eval ⟨dst, op, tyy, pos, after, none⟩).run P w = .ok (.value v) w) (hS : S w)
    (h : wpAnyH P md ops Q S fuel (listed.setIfInBounds i true) (a.put dst v) w) : wpAnyH P md ops Q S (fuel + 1) listed a w :=
  wpAnyH_take hi hs hf hr hQ (.inl ⟨by simp [Region.wanted], hy⟩) hS h
/-- A whole struct or array loaded. -/
theorem ah_load {ty : TypeId} {x : Operand} {b f : Nat} {cs : List Value} (hi : ops[i]? = some ⟨dst, .load ty x, tyy, pos, after, none⟩) (hs : Region.noSelect ops = true) (hf : Region.free md ops listed i = true) (hr : (Region.ready md ops listed).contains i = true)
    (hQ : ∀ c a w, Q (.panic c) (a.put dst (.agg cs.toArray)) w → Q (.panic c) a w) (hx : a.eval x = .pointer (some ⟨b, f, none⟩)) (hA : AggOf P ty cs.length) (hc : ∀ w, S w → CellsAt w b f cs) (hS : S w)
    (h : wpAnyH P md ops Q S fuel (listed.setIfInBounds i true) (a.put dst (.agg cs.toArray)) w) : wpAnyH P md ops Q S (fuel + 1) listed a w :=
  ah_take i hi hs hf hr hQ (fun w' hw' => by
    unfold execOp
    simp only [hx, Instr.loadAt, Instr.sureAddr, Sem.run_bind, Sem.run_pure, Result.andThen_ok, run_loadVar_agg hA (hc w' hw')]) hS h
/-- The one operation that may come up is a call of a Go function. -/
theorem ah_call {f : FuncId} {args : Array Operand} {ats : Array TypeId} {post : Ending → World → Prop} (hi : ops[i]? = some ⟨dst, .call { callee := .value (.func f), args := args, argTypes := ats }, tyy, pos, after, none⟩) (hr : Region.ready md ops listed = [i])
    {vs : Array Value} (hv : args.map a.eval = vs) {fn : Func} (hfn : P.funcs[f]? = some fn) (hnm : (fn.name == "runtime.NumGoroutine") = false) (hbd : fn.body.isNone = false) (hc : Calls P f vs w post)
    (h : ∀ e w', post e w' → ∃ v, e = .returned v ∧ S w' ∧ wpAnyH P md ops Q S fuel (listed.setIfInBounds i true) (a.put dst v) w') : wpAnyH P md ops Q S (fuel + 1) listed a w := by
  refine wpAnyH_ready hr (by simp) (AllReadyH.cons hi (fun K hK => ?_) AllReadyH.nil)
  rw [if_pos (by simp [Region.wanted])]
  subst hv
  unfold Oper.wp
  have e : (execOp a.eval ⟨dst, .call { callee := .value (.func f), args := args, argTypes := ats }, tyy, pos, after, none⟩).run P w = .ok (.enter f (args.map a.eval)) w := by
    have hf : fn.body ≠ none := by intro h; rw [h] at hbd; cases hbd
    simp [go_sem, callFunc, hfn, hf]
    simp at hnm
    simp [hnm]
  rw [e]
  show Calls P f _ w _
  refine hc.mono fun e w' hp => ?_
  obtain ⟨v, rfl, hS, hrest⟩ := h e w' hp
  exact hK.out _ _ hS (fun _ => hrest)
/-- The one operation that may come up stores a whole struct or array. -/
theorem ah_store {ty : TypeId} {x y : Operand} {g t : Nat} {cs : Array Value} {vs : List Value} (hi : ops[i]? = some ⟨dst, .store ty x y, tyy, pos, after, none⟩) (hr : Region.ready md ops listed = [i])
    (hx : a.eval x = .pointer (some ⟨g, 0, none⟩)) (hy : a.eval y = .agg vs.toArray) (hz : (P.info? ty).map (·.size) = some vs.length) (hb : Blk w g t cs) (h1 : ∀ v, v ∈ vs → v.oneCell' = true) (hl : vs.length = cs.size)
    (h : ∀ w', Blk w' g t vs.toArray → Keep [g] w w' → S w' ∧ wpAnyH P md ops Q S fuel (listed.setIfInBounds i true) (a.put dst undef) w') : wpAnyH P md ops Q S (fuel + 1) listed a w := by
  refine wpAnyH_ready hr (by simp) (AllReadyH.cons hi (fun K hK => ?_) AllReadyH.nil)
  rw [if_pos (by simp [Region.wanted])]
  obtain ⟨h2, h3⟩ := storeRow_blk vs 0 hb
  rw [splice_all vs cs hl] at h2
  obtain ⟨hS, hrest⟩ := h _ h2 h3
  unfold Oper.wp execOp
  simp only [hx, hy, Instr.storeAt, Instr.sureAddr, Sem.run_bind, Sem.run_pure, Result.andThen_ok, run_storeVar_blk 0 hz hb h1 (by omega)]
  exact hK.out _ _ hS (fun _ => hrest)
end

section
variable {P : Program} {ops : Array Oper} {Q : Exit → Act → World → Prop} {md : Region.Mode} {fuel : Nat} {listed : Array Bool} {a : Act} {w : World}
variable (i : Nat) {dst : Option Tmp} {tyy : TypeId} {pos : String} {after : Array Edge}

/-- An operation that yields its value in every world. -/
theorem an_take {op : Op} {v : Value} (hi : ops[i]? = some ⟨dst, op, tyy, pos, after, none⟩) (hs : Region.noSelect ops = true) (hf : Region.free md ops listed i = true) (hr : (Region.ready md ops listed).contains i = true)
    (hQ : ∀ c a w, Q (.panic c) (a.put dst v) w → Q (.panic c) a w) (hy : ∀ w, (execOp a.eval ⟨dst, op, tyy, pos, after, none⟩).run P w = .ok (.value v) w)
    (h : wpAny P md ops Q fuel (listed.setIfInBounds i true) (a.put dst v) w) : wpAny P md ops Q (fuel + 1) listed a w :=
  wpAny_take hi hs hf hr hQ (.inl ⟨by simp [Region.wanted], hy⟩) h
/-- Two whole structs or arrays are loaded, in either order. -/
theorem an_load2 (j : Nat) {dst' : Option Tmp} {tyy' : TypeId} {pos' : String} {after' : Array Edge} {ty ty' : TypeId} {x x' : Operand} {b f b' f' : Nat} {cs cs' : List Value}
    (hi : ops[i]? = some ⟨dst, .load ty x, tyy, pos, after, none⟩) (hj : ops[j]? = some ⟨dst', .load ty' x', tyy', pos', after', none⟩) (hr : Region.ready md ops listed = [i, j])
    (hri : Region.ready md ops (listed.setIfInBounds i true) = [j]) (hrj : Region.ready md ops (listed.setIfInBounds j true) = [i])
    (hx : a.eval x = .pointer (some ⟨b, f, none⟩)) (hA : AggOf P ty cs.length) (hc : CellsAt w b f cs) (hx' : a.eval x' = .pointer (some ⟨b', f', none⟩)) (hA' : AggOf P ty' cs'.length) (hc' : CellsAt w b' f' cs')
    (hxp : (a.put dst' (.agg cs'.toArray)).eval x = a.eval x) (hxp' : (a.put dst (.agg cs.toArray)).eval x' = a.eval x')
    (h : wpAny P md ops Q fuel ((listed.setIfInBounds i true).setIfInBounds j true) ((a.put dst (.agg cs.toArray)).put dst' (.agg cs'.toArray)) w)
    (h' : wpAny P md ops Q fuel ((listed.setIfInBounds j true).setIfInBounds i true) ((a.put dst' (.agg cs'.toArray)).put dst (.agg cs.toArray)) w) : wpAny P md ops Q (fuel + 1 + 1) listed a w := by
  have e : (loadVar ty ⟨b, f, none⟩).run P w = .ok (.agg cs.toArray) w := run_loadVar_agg hA hc
  have e' : (loadVar ty' ⟨b', f', none⟩).run P w = .ok (.agg cs'.toArray) w := run_loadVar_agg hA' hc'
  refine wpAny_ready hr (by simp) (AllReady.cons hi (fun K hK => ?_) (AllReady.cons hj (fun K hK => ?_) AllReady.nil))
  · rw [if_pos (by simp [Region.wanted])]
    unfold Oper.wp execOp
    simp only [hx, Instr.loadAt, Instr.sureAddr, Sem.run_bind, Sem.run_pure, Result.andThen_ok, e]
    refine hK _ _ (wpAny_ready hri (by simp) (AllReady.cons hj (fun K2 hK2 => ?_) AllReady.nil))
    rw [if_pos (by simp [Region.wanted])]
    unfold Oper.wp execOp
    simp only [hxp', hx', Instr.loadAt, Instr.sureAddr, Sem.run_bind, Sem.run_pure, Result.andThen_ok, e']
    exact hK2 _ _ h
  · rw [if_pos (by simp [Region.wanted])]
    unfold Oper.wp execOp
    simp only [hx', Instr.loadAt, Instr.sureAddr, Sem.run_bind, Sem.run_pure, Result.andThen_ok, e']
    refine hK _ _ (wpAny_ready hrj (by simp) (AllReady.cons hi (fun K2 hK2 => ?_) AllReady.nil))
    rw [if_pos (by simp [Region.wanted])]
    unfold Oper.wp execOp
    simp only [hxp, hx, Instr.loadAt, Instr.sureAddr, Sem.run_bind, Sem.run_pure, Result.andThen_ok, e]
    exact hK2 _ _ h'
/-- The one operation that may come up is a call of a Go function. -/
theorem an_call {f : FuncId} {args : Array Operand} {ats : Array TypeId} {post : Ending → World → Prop} (hi : ops[i]? = some ⟨dst, .call { callee := .value (.func f), args := args, argTypes := ats }, tyy, pos, after, none⟩) (hr : Region.ready md ops listed = [i])
    {vs : Array Value} (hv : args.map a.eval = vs) {fn : Func} (hfn : P.funcs[f]? = some fn) (hnm : (fn.name == "runtime.NumGoroutine") = false) (hbd : fn.body.isNone = false) (hc : Calls P f vs w post)
    (h : ∀ e w', post e w' → ∃ v, e = .returned v ∧ wpAny P md ops Q fuel (listed.setIfInBounds i true) (a.put dst v) w') : wpAny P md ops Q (fuel + 1) listed a w := by
  refine wpAny_ready hr (by simp) (AllReady.cons hi (fun K hK => ?_) AllReady.nil)
  rw [if_pos (by simp [Region.wanted])]
  subst hv
  unfold Oper.wp
  have e : (execOp a.eval ⟨dst, .call { callee := .value (.func f), args := args, argTypes := ats }, tyy, pos, after, none⟩).run P w = .ok (.enter f (args.map a.eval)) w := by
    have hf : fn.body ≠ none := by intro h; rw [h] at hbd; cases hbd
    simp [go_sem, callFunc, hfn, hf]
    simp at hnm
    simp [hnm]
  rw [e]
  show Calls P f _ w _
  refine hc.mono fun e w' hp => ?_
  obtain ⟨v, rfl, hrest⟩ := h e w' hp
  exact hK _ _ hrest
/-- The one operation that may come up stores a whole struct or array. -/
theorem an_store {ty : TypeId} {x y : Operand} {g t : Nat} {cs : Array Value} {vs : List Value} (hi : ops[i]? = some ⟨dst, .store ty x y, tyy, pos, after, none⟩) (hr : Region.ready md ops listed = [i])
    (hx : a.eval x = .pointer (some ⟨g, 0, none⟩)) (hy : a.eval y = .agg vs.toArray) (hz : (P.info? ty).map (·.size) = some vs.length) (hb : Blk w g t cs) (h1 : ∀ v, v ∈ vs → v.oneCell' = true) (hl : vs.length = cs.size)
    (h : ∀ w', Blk w' g t vs.toArray → Keep [g] w w' → wpAny P md ops Q fuel (listed.setIfInBounds i true) (a.put dst undef) w') : wpAny P md ops Q (fuel + 1) listed a w := by
  refine wpAny_ready hr (by simp) (AllReady.cons hi (fun K hK => ?_) AllReady.nil)
  rw [if_pos (by simp [Region.wanted])]
  obtain ⟨h2, h3⟩ := storeRow_blk vs 0 hb
  rw [splice_all vs cs hl] at h2
  have hrest := h _ h2 h3
  unfold Oper.wp execOp
  simp only [hx, hy, Instr.storeAt, Instr.sureAddr, Sem.run_bind, Sem.run_pure, Result.andThen_ok, run_storeVar_blk 0 hz hb h1 (by omega)]
  exact hK _ _ hrest
/-- The start. -/
theorem an_start {id : Nat} (hm : P.follows .mixedOrders = true) (h : wpAny P .any ops Q ops.size (Array.replicate ops.size false) a w.drew) : (Code.region id ops true).wp P Q a w := wp_region_any hm h
end

section
variable {P : Program} {ops : Array Oper} {Q : Exit → Act → World → Prop} {md : Region.Mode} {S : World → Prop} {fuel : Nat} {listed : Array Bool} {a : Act} {w : World}
variable (i : Nat) {dst : Option Tmp} {tyy : TypeId} {pos : String} {after : Array Edge}
/-- Operation i comes up next. -/
def OpH (P : Program) (md : Region.Mode) (ops : Array Oper) (Q : Exit → Act → World → Prop) (S : World → Prop) (fuel : Nat) (listed : Array Bool) (a : Act) (w : World) (i : Nat) : Prop :=
  wpOp P ops Q i (fun a' w' => S w' ∧ wpAnyH P md ops Q S fuel (listed.setIfInBounds i true) a' w') a w
theorem ah_one (hr : Region.ready md ops listed = [i]) (h : OpH P md ops Q S fuel listed a w i) : wpAnyH P md ops Q S (fuel + 1) listed a w :=
  wpAnyH_all hr (by simp) (fun j hj => by simp at hj; subst hj; exact h)
theorem ah_two (j : Nat) (hr : Region.ready md ops listed = [i, j]) (h : OpH P md ops Q S fuel listed a w i) (h' : OpH P md ops Q S fuel listed a w j) : wpAnyH P md ops Q S (fuel + 1) listed a w :=
  wpAnyH_all hr (by simp) (fun k hk => by simp at hk; rcases hk with rfl | rfl; exact h; exact h')
/-- An operation that runs to a known value and world. -/
theorem oph_run {op : Op} {v : Value} {w' : World} (hi : ops[i]? = some ⟨dst, op, tyy, pos, after, none⟩) (hy : (execOp a.eval ⟨dst, op, tyy, pos, after, none⟩).run P w = .ok (.value v) w') (hS : S w')
    (h : wpAnyH P md ops Q S fuel (listed.setIfInBounds i true) (a.put dst v) w') : OpH P md ops Q S fuel listed a w i := by
  unfold OpH
  refine wpOp_step hi (fun K' hK => ?_)
  rw [if_pos (by simp [Region.wanted])]
  unfold Oper.wp
  rw [hy]
  exact hK _ _ ⟨hS, h⟩
/-- A call of a Go function. -/
theorem oph_call {f : FuncId} {args : Array Operand} {ats : Array TypeId} {post : Ending → World → Prop} (hi : ops[i]? = some ⟨dst, .call { callee := .value (.func f), args := args, argTypes := ats }, tyy, pos, after, none⟩)
    {vs : Array Value} (hv : args.map a.eval = vs) {fn : Func} (hfn : P.funcs[f]? = some fn) (hnm : (fn.name == "runtime.NumGoroutine") = false) (hbd : fn.body.isNone = false) (hc : Calls P f vs w post)
    (h : ∀ e w', post e w' → ∃ v, e = .returned v ∧ S w' ∧ wpAnyH P md ops Q S fuel (listed.setIfInBounds i true) (a.put dst v) w') : OpH P md ops Q S fuel listed a w i := by
  unfold OpH
  refine wpOp_step hi (fun K' hK => ?_)
  rw [if_pos (by simp [Region.wanted])]
  subst hv
  unfold Oper.wp
  have e : (execOp a.eval ⟨dst, .call { callee := .value (.func f), args := args, argTypes := ats }, tyy, pos, after, none⟩).run P w = .ok (.enter f (args.map a.eval)) w := by
    have hf : fn.body ≠ none := by intro h; rw [h] at hbd; cases hbd
    simp [go_sem, callFunc, hfn, hf]
    simp at hnm
    simp [hnm]
  rw [e]
  show Calls P f _ w _
  refine hc.mono fun e w' hp => ?_
  obtain ⟨v, rfl, hrest⟩ := h e w' hp
  exact hK _ _ hrest
/-- A store of one cell. -/
theorem oph_store1 {ty : TypeId} {x y : Operand} {b f : Nat} {u v : Value} (hi : ops[i]? = some ⟨dst, .store ty x y, tyy, pos, after, none⟩) (hx : a.eval x = .pointer (some ⟨b, f, none⟩)) (hy : a.eval y = v) (hz : (P.info? ty).map (·.size) = some 1) (hv : v.cells = #[v]) (h1 : v.oneCell' = true)
    (hc : w.cell? ⟨b, f, none⟩ = some u) (hf : w.frozen? ⟨b, f, none⟩ = false) (hS : S (w.setCell ⟨b, f, none⟩ v))
    (h : wpAnyH P md ops Q S fuel (listed.setIfInBounds i true) (a.put dst undef) (w.setCell ⟨b, f, none⟩ v)) : OpH P md ops Q S fuel listed a w i := by
  unfold OpH
  refine wpOp_step hi (fun K' hK => ?_)
  rw [if_pos (by simp [Region.wanted])]
  have hst : (storeVar ty ⟨b, f, none⟩ v).run P w = .ok () (w.setCell ⟨b, f, none⟩ v) := by
    cases hq : P.info? ty with
    | none => simp [hq] at hz
    | some i =>
      have hs : i.size = 1 := by simpa [hq] using hz
      have hst1 : (store (⟨b, f, none⟩ : Addr) v).run P w = .ok () (w.setCell ⟨b, f, none⟩ v) := by
        rw [run_store P w _ v _ h1, hc, hf]; rfl
      have e0 : (⟨b, f, none⟩ : Addr).add 0 = ⟨b, f, none⟩ := by simp [Addr.add]
      simp [storeVar, Sem.run_bind, sizeOf, typeInfo, hq, hs, hv, storeCells, e0, hst1, Result.andThen]
  unfold Oper.wp execOp
  simp only [hx, hy, Instr.storeAt, Instr.sureAddr, Sem.run_bind, Sem.run_pure, Result.andThen_ok, hst]
  exact hK _ _ ⟨hS, h⟩
end
end Go.Proofs.YteflgdnekflbbaaDoor
