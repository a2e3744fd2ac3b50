/- The laws for plain walks serve in the rounds of a range over a function, too (no operation there defers): regions that draw their order, and lists of operations. No condition. A region that draws its order, under a condition S on the world that holds till one of its operations (p) has come about: whatever p waits for may be taken first. No condition. -/
import Derived.OrdersIn
import Derived.ControlIn
import Derived.Test.YteflgdnekflbbaaDoorReg
import Derived.Test.YteflgdnekflbbaaDoorFlow
import Derived.Test.YteflgdnekflbbaaDoorIter
namespace Go.Proofs.YteflgdnekflbbaaDoor
open Go.RowKit

/-- A fence that lets everything in. -/
structure Open (F : Fence) : Prop where
  fn : ∀ f, F.fn f
  depth : F.depth = none
  calls : ∀ {n : Nat} {P : Program} {f : FuncId} {args : Array Value} {w : World} {R : Ending → World → Prop}, Calls P f args w R → CallsIn F n P f args w R
  rows : ∀ {n : Nat} {P : Program} {row : String} {args : Array Value} {w : World} {R : Value → World → Prop}, Rows P row args w R → RowsIn F n P row args w R
theorem rowsIn_of {n : Nat} {P : Program} {row : String} {args : Array Value} {w : World} {R : Value → World → Prop} (h : Rows P row args w R) : RowsIn Fence.wide n P row args w R :=
  fun c cs _ => let ⟨v, w', r, s⟩ := h c cs; ⟨v, w', r, stepsIn_wide.2 s⟩
theorem open_wide : Open Fence.wide := ⟨fun _ => trivial, rfl, callsIn_wide.2, rowsIn_of⟩
theorem open_round (l : Nat) : Open (Fence.wide.inRound l) := ⟨fun _ => trivial, rfl, fun h => callsIn_wide.2 h, fun h => rowsIn_of h⟩

/-- How a piece may be left, but for what outgrows the machine. -/
def noOut (Q : Exit → Act → World → Prop) : Exit → Act → World → Prop
  | .outgrown, _, _ => False
  | e, a, w => Q e a w
theorem noOut_no (Q : Exit → Act → World → Prop) : ¬ LetsOut (noOut Q) := fun ⟨_, _, h⟩ => h

section
variable {F : Fence} {n : Nat} {P : Program} {ops : Array Oper} {Q : Exit → Act → World → Prop} {md : Region.Mode}
theorem oper_in (hF : Open F) {o : Oper} (ho : ∀ c, o.op ≠ .defer c) {a : Act} {w : World} {K K' : Act → World → Prop} (hK : ∀ a w, K a w → K' a w) (h : o.wp P a w K (noOut Q)) : o.wpIn F n P a w K' Q := by
  refine ⟨fun f _ => hF.fn f, ?_⟩
  rw [Oper.semAt_plain F _ _ ho]
  unfold Oper.wp at h
  generalize (execOp a.eval o).run P w = r at *
  cases r with
  | ok x w' =>
    cases x with
    | value v => exact hK _ _ h
    | skip => exact hK _ _ h
    | defer d => exact hK _ _ h
    | enter f args =>
      refine ⟨fun h => (by rw [hF.depth] at h; cases h), hF.calls (Calls.mono h fun e w'' he => ?_)⟩
      cases e with
      | returned v => exact hK _ _ he
      | panicked c => exact he
      | outgrown => exact absurd he (noOut_no Q)
    | row row args => exact ⟨fun h => (by rw [hF.depth] at h; cases h), hF.rows (Rows.mono h fun v w'' he => hK _ _ he)⟩
    | _ => first | exact h | exact h.elim
  | halt x w' => cases x <;> exact h
theorem wpOp_in (hF : Open F) (ho : ∀ (i : Nat) (o : Oper) c, ops[i]? = some o → o.op ≠ .defer c) {i : Nat} {a : Act} {w : World} {K K' : Act → World → Prop} (hK : ∀ a w, K a w → K' a w)
    (h : wpOp P ops (noOut Q) i K a w) : wpOpIn F n P ops Q i K' a w := by
  unfold wpOp at h
  unfold wpOpIn
  cases hi : ops[i]? with
  | none => simp only [hi] at h ⊢; exact hK _ _ h
  | some o =>
    simp only [hi] at h ⊢
    by_cases hw : Region.wanted o (yielded ops a.tmps) = true
    · rw [if_pos hw] at h ⊢
      rcases h with h | ⟨_, h⟩
      · exact oper_in hF (fun c => ho i o c hi) hK h
      · exact absurd h (noOut_no Q)
    · rw [if_neg hw] at h ⊢
      exact ⟨fun f _ => hF.fn f, hK _ _ h⟩
theorem wpAny_in (hF : Open F) (ho : ∀ (i : Nat) (o : Oper) c, ops[i]? = some o → o.op ≠ .defer c) : ∀ (fuel : Nat) (listed : Array Bool) (a : Act) (w : World),
    wpAny P md ops (noOut Q) fuel listed a w → wpAnyIn F n P md ops Q fuel listed a w
  | 0, _, _, _, h => h
  | fuel + 1, _, _, _, h => ⟨h.1, fun i hi => wpOp_in hF ho (fun a' w' h' => wpAny_in hF ho fuel _ a' w' h') (h.2 i hi)⟩
/-- No operation of the list defers. -/
def noDefer (ops : List Oper) : Bool := ops.all (fun o => match o.op with | .defer _ => false | _ => true)
theorem noDefer_spec {l : List Oper} (h : noDefer l = true) (i : Nat) (o : Oper) (c : Call) (hi : l.toArray[i]? = some o) : o.op ≠ .defer c := by
  intro e
  have hm : o ∈ l := by
    have : l[i]? = some o := by simpa using hi
    exact List.mem_of_getElem? this
  have := List.all_eq_true.1 h o hm
  rw [e] at this
  cases this
/-- A region that draws its order, in a round. -/
theorem region_in {id : Nat} {a : Act} {w : World} {l : List Oper} (hF : Open F) (hm : P.follows .mixedOrders = true) (hd : noDefer l = true)
    (h : wpAny P .any l.toArray (noOut Q) l.toArray.size (Array.replicate l.toArray.size false) a w.drew) : (Code.region id l.toArray true).wpIn F n P Q a w :=
  wpIn_region_any hm (wpAny_in hF (noDefer_spec hd) _ _ _ _ h)
theorem region_in_held {S : World → Prop} {id : Nat} {a : Act} {w : World} {l : List Oper} (hF : Open F) (hm : P.follows .mixedOrders = true) (hd : noDefer l = true)
    (h : wpAnyH P .any l.toArray (noOut Q) S l.toArray.size (Array.replicate l.toArray.size false) a w.drew) : (Code.region id l.toArray true).wpIn F n P Q a w :=
  region_in hF hm hd (wpAny_of_held _ _ _ _ h)
/-- A list of operations, in a round. -/
theorem wpList_in (hF : Open F) : ∀ (l : List Oper), noDefer l = true → ∀ (a : Act) (w : World), wpList P ops (noOut Q) l a w → wpListIn F n P ops Q l a w
  | [], _, _, _, h => h
  | o :: l, hd, a, w, h => by
    have hd2 : noDefer l = true := by simp [noDefer] at hd ⊢; exact hd.2
    have ho : ∀ c, o.op ≠ .defer c := fun c => noDefer_spec hd 0 o c (by simp)
    rw [wpList] at h
    rw [wpListIn]
    split
    · rename_i hw
      rw [if_pos hw] at h
      rcases h with h | ⟨_, h⟩
      · exact oper_in hF ho (fun a w h => wpList_in hF l hd2 a w h) h
      · exact absurd h (noOut_no Q)
    · rename_i hw
      rw [if_neg hw] at h
      exact ⟨fun f _ => hF.fn f, wpList_in hF l hd2 _ _ h⟩
end

theorem noOut_normal (Q : Exit → Act → World → Prop) (a : Act) (w : World) : noOut Q .normal a w = Q .normal a w := rfl
section
variable {F : Fence} {n : Nat} {P : Program} {Q : Exit → Act → World → Prop}
/-- A region that is walked in the text's order (XFlow), in a round. -/
theorem region_in_flow {id : Nat} {a : Act} {w : World} {l : List Oper} (S : World → Prop) (hF : Open F) (hm : P.follows .mixedOrders = true) (hd : noDefer l = true) (hB : Region.lexB .any l.toArray = true) (hw : S w.drew)
    (h : wpFlow P l.toArray S (fun a' => ∀ w', S w' → Q .normal a' w') l a) : (Code.region id l.toArray true).wpIn F n P Q a w := by
  simp only [Region.lexB, Bool.and_eq_true] at hB
  refine region_in hF hm hd (wpAny_of_flow (Q := fun a' => ∀ w', S w' → Q .normal a' w') (Q' := noOut Q) (fun _ _ h hs => h _ hs) _ _ _ _ hw ?_)
  have := wpAnyF_lex (md := .any) hB.1 l 0 (Array.replicate l.toArray.size false) a (by simp) (by simpa using hB.2) h
  simpa using this
/-- The same, the last operations one behind the other. -/
theorem region_in_flow_tail {id : Nat} {a : Act} {w : World} {l : List Oper} (n' : Nat) (S : World → Prop) (hF : Open F) (hm : P.follows .mixedOrders = true) (hd : noDefer l = true) (hB : Region.lexTailB .any l.toArray n' = true) (hw : S w.drew)
    (h : wpFlow P l.toArray S (fun a' => ∀ w', S w' → wpList P l.toArray (noOut Q) (l.drop n') a' w') (l.take n') a) : (Code.region id l.toArray true).wpIn F n P Q a w := by
  simp only [Region.lexTailB, Bool.and_eq_true, decide_eq_true_eq] at hB
  obtain ⟨⟨⟨⟨hsel, hn⟩, hs⟩, hc⟩, hlex⟩ := hB
  have hn' : n' < l.length := by simpa using hn
  have htl : (l.take n').length = n' := by simp; omega
  have hdl : (l.drop n').length = l.toArray.size - n' := by simp
  have inv0 : HeadInv .any l.toArray n' (Array.replicate l.toArray.size false) :=
    ⟨by simp, fun j oj _ hl => (by rw [getD_replicate_false] at hl; cases hl), fun t _ ht => getD_in (by simpa using ht) (getD_replicate_false _ _)⟩
  have H := wpAnyLF_lex (md := .any) (g := l.toArray.size - n') hsel hs hc hn (l.take n') 0 _ a (fun j hj => by
    have hj' : j < n' := by rw [htl] at hj; exact hj
    simp [hj']) (by simpa using htl) inv0 (by rw [htl]; exact hlex) h
  refine region_in hF hm hd ?_
  have := wpAny_of_headF (Q' := noOut Q) (g := l.toArray.size - n') (fun listed a' w' hL hs => by
    have := wpAny_of_seq (md := .any) (Q' := noOut Q) (l.drop n') n' listed a' w' (fun j => by simp [List.getElem?_drop]) (by rw [hdl]; exact hL.1) (hL.2 w' hs)
    rwa [hdl] at this) _ _ _ _ hw H
  rw [htl, show n' + (l.toArray.size - n') = l.toArray.size by omega] at this
  exact this
end
end Go.Proofs.YteflgdnekflbbaaDoor

namespace Go.Proofs.YteflgdnekflbbaaDoor
open Go.RowKit

/-- The operations that wait for operation i, straight or through others. -/
def laterD (md : Region.Mode) (ops : Array Oper) (i : Nat) : List Nat :=
  (List.range ops.size).foldl (fun acc k => if ((ops[k]?).map (fun o => o.after.any (fun e => Region.binds md e && (e.on == i || acc.contains e.on)))).getD false then k :: acc else acc) []
def pendB (md : Region.Mode) (ops : Array Oper) (listed : Array Bool) (i p : Nat) : Bool :=
  (laterD md ops i).contains p && (laterD md ops i).all (fun d => !listed.getD d true && ((ops[d]?).map (fun o => o.after.any (fun e => Region.binds md e && (e.on == i || (laterD md ops i).contains e.on)))).getD false)

section
variable {P : Program} {ops : Array Oper} {Q : Exit → Act → World → Prop} {md : Region.Mode} {S : World → Prop} {p : Nat}
def wpAnyP (P : Program) (md : Region.Mode) (ops : Array Oper) (Q : Exit → Act → World → Prop) (p : Nat) (S : World → Prop) : Nat → Array Bool → Act → World → Prop
  | 0, listed, a, w => Region.ready md ops listed = [] ∧ Q .normal a w
  | fuel + 1, listed, a, w =>
    (Region.ready md ops listed = [] → Q .normal a w) ∧
    ∀ i ∈ Region.ready md ops listed, wpOp P ops Q i (fun a' w' => ((listed.setIfInBounds i true).getD p true = false → S w') ∧ wpAnyP P md ops Q p S fuel (listed.setIfInBounds i true) a' w') a w
theorem wpAny_of_pend : ∀ (fuel : Nat) (listed : Array Bool) (a : Act) (w : World), wpAnyP P md ops Q p S fuel listed a w → wpAny P md ops Q fuel listed a w
  | 0, _, _, _, h => h
  | fuel + 1, _, _, _, h => ⟨h.1, fun i hi => wpOp_mono (fun a' w' h' => wpAny_of_pend fuel _ a' w' h'.2) (h.2 i hi)⟩
theorem getD_tf {listed : Array Bool} {i : Nat} (h : listed.getD i true = false) : listed.getD i false = false := by
  rcases Nat.lt_or_ge i listed.size with h' | h'
  · simp [h'] at h ⊢; exact h
  · simp [Array.getElem?_eq_none h'] at h
theorem wpAnyP_first {i : Nat} {oi : Oper} {v : Value} {D : List Nat} (hi : ops[i]? = some oi) (hsel : ∀ (j : Nat) (o : Oper) cs b, ops[j]? = some o → o.op ≠ .select cs b)
    (hQ : ∀ c a w, Q (.panic c) (a.put oi.dst v) w → Q (.panic c) a w) (hpD : p ∈ D) (hD : ∀ d ∈ D, ∃ o, ops[d]? = some o ∧ ∃ e ∈ o.after, Region.binds md e = true ∧ (e.on = i ∨ e.on ∈ D)) :
    ∀ (fuel : Nat) (listed : Array Bool) (a : Act) (w : World),
      (∀ j oj, ops[j]? = some oj → j ≠ i → listed.getD j true = false → (∀ e ∈ oj.after, Region.binds md e = true → e.on ≠ i) → oi.apart ops oj = true) →
      i ∈ Region.ready md ops listed → (∀ d ∈ D, listed.getD d true = false) → YieldsIf P ops S oi v a → S w →
      wpAnyP P md ops Q p S fuel (listed.setIfInBounds i true) (a.put oi.dst v) w → wpAnyP P md ops Q p S (fuel + 1) listed a w := by
  intro fuel
  induction fuel with
  | zero =>
    intro listed a w _ hr _ hy hS H
    refine ⟨fun h => (by rw [h] at hr; cases hr), fun j hj => ?_⟩
    by_cases hji : j = i
    · subst hji; exact hy.wpOp hi hS ⟨fun _ => hS, H⟩
    · have := ready_mono hj hji
      rw [H.1] at this
      cases this
  | succ fuel ih =>
    intro listed a w hfree hr hun hy hS H
    refine ⟨fun h => (by rw [h] at hr; cases hr), fun j hj => ?_⟩
    by_cases hji : j = i
    · subst hji; exact hy.wpOp hi hS ⟨fun _ => hS, H⟩
    · have h1 := H.2 j (ready_mono hj hji)
      obtain ⟨hjun, oj, hoj, hall⟩ := mem_ready.1 hj
      have hiun := getD_tf (mem_ready.1 hr).1
      have hnot : ∀ e ∈ oj.after, Region.binds md e = true → e.on ≠ i := fun e he hb heq => by
        have h1 := hall e he hb
        rw [heq, hiun] at h1
        cases h1
      have hjD : j ∉ D := fun hm => by
        obtain ⟨o, ho, e, he, hb, hon⟩ := hD j hm
        rw [hoj] at ho
        cases ho
        have h1 := hall e he hb
        rcases hon with h | h
        · exact hnot e he hb h
        · rw [getD_tf (hun _ h)] at h1; cases h1
      have hun' : ∀ d ∈ D, (listed.setIfInBounds j true).getD d true = false := fun d hd => by
        rw [getD_set_ne true (fun e => hjD (by rw [e]; exact hd))]
        exact hun d hd
      have h2 := wpOp_putIf hoj (hfree j oj hoj hji hjun hnot) (fun cs b => hsel i oi cs b hi) (fun cs b => hsel j oj cs b hoj) hQ hy h1
      have hfree' : ∀ k ok, ops[k]? = some ok → k ≠ i → (listed.setIfInBounds j true).getD k true = false →
          (∀ e ∈ ok.after, Region.binds md e = true → e.on ≠ i) → oi.apart ops ok = true := fun k ok hk hki hun hno => by
        refine hfree k ok hk hki ?_ hno
        by_cases hjk : j = k
        · subst hjk; exact hjun
        · rw [getD_set_ne true hjk] at hun; exact hun
      have hip : i ≠ p := fun e => by
        obtain ⟨o, ho, e', he', hb', hon⟩ := hD p hpD
        have h3 := hun p hpD
        obtain ⟨_, o', ho', hall'⟩ := mem_ready.1 hr
        rw [e, ho] at ho'
        cases ho'
        have h4 := hall' e' he' hb'
        rcases hon with h | h
        · rw [h, hiun] at h4; cases h4
        · rw [getD_tf (hun _ h)] at h4; cases h4
      refine wpOp_mono (fun a' w' h3 => ?_) h2
      have hS' : S w' := h3.2.1 (by
        rw [Array.setIfInBounds_comm _ _ (Ne.symm hji), getD_set_ne true hip]
        exact hun' p hpD)
      refine ⟨fun _ => hS', ih (listed.setIfInBounds j true) a' w' hfree' (ready_mono hr (Ne.symm hji)) hun' h3.1 hS' ?_⟩
      rw [Array.setIfInBounds_comm _ _ hji]
      exact h3.2.2
theorem pendB_spec {listed : Array Bool} {i : Nat} (h : pendB md ops listed i p = true) : p ∈ laterD md ops i ∧ (∀ d ∈ laterD md ops i, ∃ o, ops[d]? = some o ∧ ∃ e ∈ o.after, Region.binds md e = true ∧ (e.on = i ∨ e.on ∈ laterD md ops i)) ∧
    ∀ d ∈ laterD md ops i, listed.getD d true = false := by
  unfold pendB at h
  simp only [Bool.and_eq_true, List.all_eq_true, List.contains_iff_mem] at h
  obtain ⟨h1, h2⟩ := h
  refine ⟨h1, fun d hd => ?_, fun d hd => ?_⟩
  · have h3 := (h2 d hd).2
    cases ho : ops[d]? with
    | none => rw [ho] at h3; cases h3
    | some o =>
      rw [ho] at h3
      simp only [Option.map_some, Option.getD_some, Array.any_eq_true', Bool.and_eq_true, Bool.or_eq_true, beq_iff_eq, List.contains_iff_mem] at h3
      obtain ⟨e, he, hb, hon⟩ := h3
      exact ⟨o, rfl, e, he, hb, hon⟩
  · have h3 := (h2 d hd).1
    simpa using h3

variable {fuel : Nat} {listed : Array Bool} {a : Act} {w : World}
theorem ap_start {F : Fence} {n : Nat} {id : Nat} {l : List Oper} (p : Nat) (S : World → Prop) (hF : Open F) (hm : P.follows .mixedOrders = true) (hd : noDefer l = true) (hS : S w.drew)
    (h : S w.drew → PanOk (noOut Q) → wpAnyP P .any l.toArray (noOut Q) p S l.toArray.size (Array.replicate l.toArray.size false) a w.drew) (hQ : PanOk (noOut Q)) : (Code.region id l.toArray true).wpIn F n P Q a w :=
  region_in hF hm hd (wpAny_of_pend _ _ _ _ (h hS hQ))
theorem ap_begin {id : Nat} {l : List Oper} (p : Nat) (S : World → Prop) (hm : P.follows .mixedOrders = true) (hS : S w.drew)
    (h : S w.drew → PanOk Q → wpAnyP P .any l.toArray Q p S l.toArray.size (Array.replicate l.toArray.size false) a w.drew) (hQ : PanOk Q) : (Code.region id l.toArray true).wp P Q a w :=
  wp_region_any hm (wpAny_of_pend _ _ _ _ (h hS hQ))
variable (i : Nat) {dst : Option Tmp} {op : Op} {tyy : TypeId} {pos : String} {after : Array Edge} {gd : Option (Nat × Bool)}
/-- An operation that yields its value in every world that meets S. -/
theorem ap_val {v : Value} (hi : ops[i]? = some ⟨dst, op, tyy, pos, after, gd⟩) (hs : Region.noSelect ops = true) (hf : Region.free md ops listed i = true) (hr : (Region.ready md ops listed).contains i = true) (hp : pendB md ops listed i p = true)
    (hw : Region.wanted ⟨dst, op, tyy, pos, after, gd⟩ (yielded ops a.tmps) = true) (hQ : PanOk Q) (hy : ∀ w, S w → (execOp a.eval ⟨dst, op, tyy, pos, after, gd⟩).run P w = .ok (.value v) w) (hS : S w)
    (h : wpAnyP P md ops Q p S fuel (listed.setIfInBounds i true) (a.put dst v) w) : wpAnyP P md ops Q p S (fuel + 1) listed a w := by
  obtain ⟨h1, h2, h3⟩ := pendB_spec hp
  exact wpAnyP_first hi (Region.noSelect_spec hs) (fun c a w => hQ c a _ _ w) h1 h2 fuel listed a w (Region.free_spec hi hf) (by simpa using hr) h3 (.inl ⟨hw, hy⟩) hS h
theorem ap_off (hi : ops[i]? = some ⟨dst, op, tyy, pos, after, gd⟩) (hs : Region.noSelect ops = true) (hf : Region.free md ops listed i = true) (hr : (Region.ready md ops listed).contains i = true) (hp : pendB md ops listed i p = true)
    (hw : Region.wanted ⟨dst, op, tyy, pos, after, gd⟩ (yielded ops a.tmps) = false) (hQ : PanOk Q) (hS : S w)
    (h : wpAnyP P md ops Q p S fuel (listed.setIfInBounds i true) (a.put dst undef) w) : wpAnyP P md ops Q p S (fuel + 1) listed a w := by
  obtain ⟨h1, h2, h3⟩ := pendB_spec hp
  exact wpAnyP_first hi (Region.noSelect_spec hs) (fun c a w => hQ c a _ _ w) h1 h2 fuel listed a w (Region.free_spec hi hf) (by simpa using hr) h3 (.inr ⟨hw, rfl⟩) hS h
theorem ap_agg (ty : TypeId) (x : Operand) (cs : List Value) (hi : ops[i]? = some ⟨dst, op, tyy, pos, after, gd⟩) (hs : Region.noSelect ops = true) (hf : Region.free md ops listed i = true) (hr : (Region.ready md ops listed).contains i = true) (hp : pendB md ops listed i p = true)
    (hw : Region.wanted ⟨dst, op, tyy, pos, after, gd⟩ (yielded ops a.tmps) = true) (hQ : PanOk Q) (ho : op = .load ty x) {b f : Nat} (hx : a.eval x = .pointer (some ⟨b, f, none⟩)) (hA : AggOf P ty cs.length) (hc : ∀ w, S w → CellsAt w b f cs) (hS : S w)
    (h : wpAnyP P md ops Q p S fuel (listed.setIfInBounds i true) (a.put dst (.agg cs.toArray)) w) : wpAnyP P md ops Q p S (fuel + 1) listed a w :=
  ap_val i hi hs hf hr hp hw hQ (fun w' hw' => by
    unfold execOp
    simp only [ho, hx, Instr.loadAt, Instr.sureAddr, Sem.run_bind, Sem.run_pure, Result.andThen_ok, run_loadVar_agg hA (hc w' hw')]) hS h
/-- The one operation that may come up. -/
theorem ap_one (hr : Region.ready md ops listed = [i]) (h : wpOp P ops Q i (fun a' w' => ((listed.setIfInBounds i true).getD p true = false → S w') ∧ wpAnyP P md ops Q p S fuel (listed.setIfInBounds i true) a' w') a w) :
    wpAnyP P md ops Q p S (fuel + 1) listed a w :=
  ⟨fun h0 => (by rw [hr] at h0; cases h0), fun j hj => by rw [hr] at hj; simp at hj; subst hj; exact h⟩
theorem ap_done (hr : Region.ready md ops listed = []) (h : Q .normal a w) : ∀ fuel, wpAnyP P md ops Q p S fuel listed a w
  | 0 => ⟨hr, h⟩
  | _ + 1 => ⟨fun _ => h, by rw [hr]; simp⟩
end

section
variable {P : Program} {ops : Array Oper} {Q : Exit → Act → World → Prop} {a : Act} {w : World} {K : Act → World → Prop}
variable (i : Nat) {dst : Option Tmp} {op : Op} {tyy : TypeId} {pos : String} {after : Array Edge} {gd : Option (Nat × Bool)}
/-- Operations that are carried out, one by one. -/
theorem op_run {v : Value} {w' : World} (hi : ops[i]? = some ⟨dst, op, tyy, pos, after, gd⟩) (hw : Region.wanted ⟨dst, op, tyy, pos, after, gd⟩ (yielded ops a.tmps) = true)
    (hy : (execOp a.eval ⟨dst, op, tyy, pos, after, gd⟩).run P w = .ok (.value v) w') (h : K (a.put dst v) w') : wpOp P ops Q i K a w := by
  refine wpOp_step hi (fun K' hK => ?_)
  rw [if_pos hw]
  unfold Oper.wp
  rw [hy]
  exact hK _ _ h
theorem op_call {f : FuncId} {args : Array Operand} {ats : Array TypeId} {post : Ending → World → Prop} (hi : ops[i]? = some ⟨dst, op, tyy, pos, after, gd⟩) (hw : Region.wanted ⟨dst, op, tyy, pos, after, gd⟩ (yielded ops a.tmps) = true)
    (ho : op = .call { callee := .value (.func f), args := args, argTypes := ats }) {vs : Array Value} (hv : args.map a.eval = vs) {fn : Func} (hfn : P.funcs[f]? = some fn) (hnm : (fn.name == "runtime.NumGoroutine") = false) (hbd : fn.body.isNone = false)
    (hc : Calls P f vs w post) (h : ∀ e w', post e w' → ∃ v, e = .returned v ∧ K (a.put dst v) w') : wpOp P ops Q i K a w := by
  refine wpOp_step hi (fun K' hK => ?_)
  rw [if_pos hw]
  subst hv
  unfold Oper.wp
  have e : (execOp a.eval ⟨dst, op, tyy, pos, after, gd⟩).run P w = .ok (.enter f (args.map a.eval)) w := by
    have hf : fn.body ≠ none := by intro h; rw [h] at hbd; cases hbd
    simp [execOp, ho, go_sem, callFunc, hfn, hf]
    simp at hnm
    simp [hnm]
  rw [e]
  show Calls P f _ w _
  refine hc.mono fun e w' hp => ?_
  obtain ⟨v, rfl, hrest⟩ := h e w' hp
  exact hK _ _ hrest
theorem op_store_all {ty : TypeId} {x y : Operand} {g t : Nat} {cs : Array Value} {vs : List Value} (hi : ops[i]? = some ⟨dst, op, tyy, pos, after, gd⟩) (hw : Region.wanted ⟨dst, op, tyy, pos, after, gd⟩ (yielded ops a.tmps) = true)
    (ho : op = .store ty x y) (hx : a.eval x = .pointer (some ⟨g, 0, none⟩)) (hy : a.eval y = .agg vs.toArray) (hz : (P.info? ty).map (·.size) = some vs.length) (hb : Blk w g t cs) (h1 : ∀ v, v ∈ vs → v.oneCell' = true) (hl : vs.length = cs.size)
    (h : ∀ w', Blk w' g t vs.toArray → Keep [g] w w' → K (a.put dst undef) w') : wpOp P ops Q i K a w := by
  refine wpOp_step hi (fun K' hK => ?_)
  rw [if_pos hw]
  obtain ⟨h2, h3⟩ := storeRow_blk vs 0 hb
  rw [splice_all vs cs hl] at h2
  unfold Oper.wp execOp
  simp only [ho, hx, hy, Instr.storeAt, Instr.sureAddr, Sem.run_bind, Sem.run_pure, Result.andThen_ok, run_storeVar_blk 0 hz hb h1 (by omega)]
  exact hK _ _ (h _ h2 h3)
theorem op_store1 {ty : TypeId} {x y : Operand} {b f : Nat} {u v : Value} (hi : ops[i]? = some ⟨dst, op, tyy, pos, after, gd⟩) (hw : Region.wanted ⟨dst, op, tyy, pos, after, gd⟩ (yielded ops a.tmps) = true)
    (ho : op = .store ty x y) (hx : a.eval x = .pointer (some ⟨b, f, none⟩)) (hy : a.eval y = v) (hz : (P.info? ty).map (·.size) = some 1) (hv : v.cells = #[v]) (h1 : v.oneCell' = true)
    (hc : w.cell? ⟨b, f, none⟩ = some u) (hf : w.frozen? ⟨b, f, none⟩ = false) (h : K (a.put dst undef) (w.setCell ⟨b, f, none⟩ v)) : wpOp P ops Q i K a w := by
  refine wpOp_step hi (fun K' hK => ?_)
  rw [if_pos hw]
  have hst : (storeVar ty ⟨b, f, none⟩ v).run P w = .ok () (w.setCell ⟨b, f, none⟩ v) := by
    cases hq : P.info? ty with
    | none => simp [hq] at hz
    | some i =>
      have hs : i.size = 1 := by simpa [hq] using hz
      have hst1 : (store (⟨b, f, none⟩ : Addr) v).run P w = .ok () (w.setCell ⟨b, f, none⟩ v) := by
        rw [run_store P w _ v _ h1, hc, hf]; rfl
      have e0 : (⟨b, f, none⟩ : Addr).add 0 = ⟨b, f, none⟩ := by simp [Addr.add]
      simp [storeVar, Sem.run_bind, sizeOf, typeInfo, hq, hs, hv, storeCells, e0, hst1, Result.andThen]
  unfold Oper.wp execOp
  simp only [ho, hx, hy, Instr.storeAt, Instr.sureAddr, Sem.run_bind, Sem.run_pure, Result.andThen_ok, hst]
  exact hK _ _ h
/-- 'append(out, x, y, ..)' of what a literal has laid in block g: out is the call's own. -/
theorem op_app {e : TypeId} {us : List Value} (m : Nat) (s x : Operand) (t : TypeId) (hi : ops[i]? = some ⟨dst, op, tyy, pos, after, gd⟩) (hw : Region.wanted ⟨dst, op, tyy, pos, after, gd⟩ (yielded ops a.tmps) = true)
    (ho : op = .call { callee := .builtin .append, args := #[s, x], argTypes := #[t, t] })
    {size bytes : Nat} (hS : SliceOf P t e size bytes) {B : Nat} {v : Value} {n : Nat} {xs : List Value} (hown : w.ownsRow B e size v n xs) (hs : a.eval s = v) {g : Nat} (hx : a.eval x = .slice (some ⟨g, 0, none⟩) m m)
    (hblk : CellsAt w g 0 us) (hl : us.length = m * size) (h1 : ∀ u ∈ us, u.oneCell' = true) (hB : B ≤ w.heap.size) (hb : (n + m) * bytes ≤ 140737488355328) (h63 : n + m ≤ maxLen)
    (h : ∀ v' w', w'.ownsRow B e size v' (n + m) (xs ++ us) → Keep v.ownBlock.toList w w' → (v'.ownBlock = v.ownBlock ∨ v'.ownBlock = some w.heap.size) → K (a.put dst v') w') : wpOp P ops Q i K a w := by
  obtain ⟨ht, ⟨j, z, hj, hz, hsz, hby, hzs⟩, hpos⟩ := hS.parts
  obtain ⟨v', w', hrun, h2, h3, _, h5⟩ := run_append_own_at (P := P) w B t tyy e j z size bytes ht hj hz hsz hby hzs hpos v n xs hown ⟨g, 0, none⟩ m m us hl
    (by
      intro j u hu
      rw [add_of_block]
      have := hblk j u hu
      rwa [Nat.zero_add] at this) h1 h63 hb hB
  refine wpOp_step hi (fun K' hK => ?_)
  rw [if_pos hw]
  unfold Oper.wp execOp
  simp only [ho, resolve, invoke, builtin, Sem.run_bind, Sem.run_pure, Result.andThen_ok, List.map_toArray, List.map_cons, List.map_nil, hs, hx, hrun]
  exact hK _ _ (h v' w' h2 (Keep.of_grown h3) h5)
end
/-- A struct and a value are handed back. -/
theorem results_cell_tmp {P : Program} {w : World} {fn : Func} {p q : Tmp} {ty : TypeId} (h : fn.results = #[.cell p ty, .tmp q]) (tmps : Array Value) {g t : Nat} {vs : List Value} {v : Value} (hp : tmps.getD p undef = .pointer (some ⟨g, 0, none⟩)) (hq : tmps.getD q undef = v)
    (hb : Blk w g t vs.toArray) (hA : AggOf P ty vs.length) : (results fn tmps).run P w = .ok (.tuple #[.agg vs.toArray, v]) w := by
  have hp' : tmps[p]?.getD undef = .pointer (some ⟨g, 0, none⟩) := by simpa using hp
  have hq' : tmps[q]?.getD undef = v := by simpa using hq
  have hc : CellsAt w g 0 vs := fun j u hu => by rw [Nat.zero_add, hb.cell]; simpa using hu
  simp [results, h, hp', hq', asAddr, run_loadVar_agg hA hc]
section
variable {P : Program} {ops : Array Oper} {rest : List Oper} {o : Oper} {a : Act} {Q : Exit → Act → World → Prop} {w : World}
/-- A whole struct or array loaded, under a guard that lets it. -/
theorem wpList_agg_gd (hgd : Region.wanted o (yielded ops a.tmps) = true) (ty : TypeId) (x : Operand) (ho : o.op = .load ty x) {b f : Nat} (hx : a.eval x = .pointer (some ⟨b, f, none⟩)) {cs : List Value} (hA : AggOf P ty cs.length) (hc : CellsAt w b f cs)
    (h : wpList P ops Q rest (a.put o.dst (.agg cs.toArray)) w) : wpList P ops Q (o :: rest) a w := by
  refine wpList_step fun K hK => ?_
  rw [if_pos hgd]
  unfold Oper.wp execOp
  simp only [ho, hx, Instr.loadAt, Instr.sureAddr, Sem.run_bind, Sem.run_pure, Result.andThen_ok, run_loadVar_agg hA hc]
  exact hK _ _ h
end
end Go.Proofs.YteflgdnekflbbaaDoor

namespace Go.Proofs.YteflgdnekflbbaaDoor
open Go.RowKit
attribute [local go_sem] Oper.semAt_some

section
variable {P : Program} {ops : Array Oper} {rest : List Oper} {o : Oper} {a : Act} {Q : Exit → Act → World → Prop} {w : World} {F : Fence} {n' : Nat}
/-- A whole struct or array stored, in a round or an iterator. -/
theorem wpListIn_store_all (hgd : o.guard = none) (ty : TypeId) (x y : Operand) (ho : o.op = .store ty x y) {g t : Nat} {cs : Array Value} {vs : List Value} (hx : a.eval x = .pointer (some ⟨g, 0, none⟩)) (hy : a.eval y = .agg vs.toArray)
    (hi : (P.info? ty).map (·.size) = some vs.length) (hb : Blk w g t cs) (h1 : ∀ v, v ∈ vs → v.oneCell' = true) (hl : vs.length = cs.size)
    (h : ∀ w', Blk w' g t vs.toArray → Keep [g] w w' → wpListIn F n' P ops Q rest (a.put o.dst undef) w') : wpListIn F n' P ops Q (o :: rest) a w := by
  refine wpListIn_plain hgd fun K hK => ?_
  obtain ⟨h2, h3⟩ := storeRow_blk vs 0 hb
  rw [splice_all vs cs hl] at h2
  unfold Oper.wpIn
  refine ⟨?_, ?_⟩
  · simp [Oper.about, ho]
  · rw [Oper.semAt_plain F _ _ (by rw [ho]; intro c hc'; cases hc')]
    simp only [execOp, ho, hx, hy, Instr.storeAt, Instr.sureAddr, Sem.run_bind, Sem.run_pure, Result.andThen_ok, run_storeVar_blk 0 hi hb h1 (by omega)]
    exact hK _ _ (h _ h2 h3)
theorem stopIn_at (n : Tmp) (_hd : o.dst = some n) (h : Stop (wpListIn F n' P ops Q (o :: rest) a w)) : wpListIn F n' P ops Q (o :: rest) a w := h.go
theorem stopIn_store (t : TypeId) (x y : Operand) (_ho : o.op = .store t x y) (h : Stop (wpListIn F n' P ops Q (o :: rest) a w)) : wpListIn F n' P ops Q (o :: rest) a w := h.go
end
end Go.Proofs.YteflgdnekflbbaaDoor
