/- A range over a function whose iterator hands on values of its own making (a row that it has just laid, say): what they say is known, not where they lie. No condition. -/
import Derived.Test.YteanpgkonhdbpaaRangeB
namespace Go.Proofs.Yteanpgkonhdbpaa
open Go.RowKit

/-- The contract of an iterator that hands on xs, each as values that stand for it in the world of that moment. -/
def SeqQ {α : Type} (F : Fence) (n : Nat) (P : Program) (Lo : Nat → Obj → Prop) (g : Nat) (lb : Array Value) (Enc : α → World → Array Value → Prop) (Kp : World → World → Prop) (xs : List α) (w : World) : Prop :=
  ∀ (l : Nat) (J Jx : List α → World → Prop) (W : World), Below w.heap.size w W → w.heap.size + 2 ≤ W.heap.size → OwnT W.heap.size Lo J → OwnT W.heap.size Lo Jx →
    (∀ pre x W1 args, J pre W1 → pre ++ [x] <+: xs → Enc x W1 args → YieldAt F (n - 1) P l args W1 fun e W' =>
      (e = .returned (.bool true) ∧ J (pre ++ [x]) W' ∧ Kp W1 W') ∨ (e = .returned (.bool false) ∧ Jx (pre ++ [x]) W' ∧ Kp W1 W')) →
    J [] W →
    CallsIn F n P g (#[.func (.yield l) #[] #[]] ++ lb) W fun e W' => (∃ v, e = .returned v) ∧ (J xs W' ∨ ∃ pre, pre <+: xs ∧ Jx pre W')
section
variable {F : Fence} {n : Nat} {P : Program} {w : World}
/-- A range over an iterator that hands on values of its own making. -/
theorem wpIn_rangeQ {α : Type} {Lo : Nat → Obj → Prop} {g : Operand} {ps : Array Tmp} {assign body : Code} {Q : Exit → Act → World → Prop} {a : Act}
    (hro : F.round = none) (h1 : 1 ≤ n) {gf : Nat} {lb : Array Value} (hg : a.eval g = .func (.func gf) #[] lb) (hFg : F.fn gf) (eg : ∀ args w, (callFunc gf args).run P w = .ok (.enter gf args) w)
    {Enc : α → World → Array Value → Prop} {Kp : World → World → Prop} {xs : List α} {w0 : World} (hseq : SeqQ F (n - 1) P Lo gf lb Enc Kp xs w0)
    (hKt : ∀ {A B C : World}, Kp A B → Kp B C → Kp A C) (hKb : ∀ (W : World) (o o' : Obj), W.heap[w.heap.size + 1]? = some o → o.isCells = false → Kp W (W.putObj (w.heap.size + 1) o'))
    (hb0 : Below w0.heap.size w0 w) (hps : ∀ x W args, Enc x W args → args.size = ps.size)
    (I : List α → World → Prop) (Ix : Code → List α → World → Prop) (hI : OwnT w.heap.size Lo I) (hIx : ∀ c, OwnT w.heap.size Lo (Ix c)) (h0 : I [] w) (PA : α → Act → World → Prop) (hPA : ∀ x a1, OwnFrom w.heap.size (fun (_ : Unit) W => PA x a1 W)) (hKa : ∀ W W2, w.heap.size + 2 ≤ W.heap.size → Keep [] W W2 → Kp W W2)
    (hassign : ∀ (l : Nat) (x : α) (args : Array Value) (W : World) (K : Act → World → Prop), w.heap.size + 2 ≤ W.heap.size → Enc x W args → (∀ a1 W2, Keep [] W W2 → PA x a1 W2 → K a1 W2) →
      assign.wpIn (F.inRound l) (n - 1 - 1) P (Exit.then K (fun _ _ _ => False)) { tmps := (ps.zip args).foldl (fun t (p, v) => t.setIfInBounds p v) a.tmps, defers := [] } W)
    (hbody : ∀ (l : Nat) (pre : List α) (x : α) (a1 : Act) (W : World), w.heap.size + 2 ≤ W.heap.size → I pre W → PA x a1 W → pre ++ [x] <+: xs → body.wpIn (F.inRound l) (n - 1 - 1) P (ownPostT w.heap.size Kp I Ix (pre ++ [x]) W) a1 W)
    (hdone : ∀ (D : Nat) (W : World), w.heap.size ≤ D → I xs W → W.heap[D]? = some (.deferred (some [])) → Q .normal { a with defers := { target := .collected D, args := #[] } :: a.defers } W)
    (hstop : ∀ (D : Nat) (c : Code) (pre : List α) (W : World), w.heap.size ≤ D → pre <+: xs → Ix c pre W → W.heap[D]? = some (.deferred (some [])) → c.wpIn F n P Q { a with defers := { target := .collected D, args := #[] } :: a.defers } W) :
    (Code.rangeFunc g ps assign body).wpIn F n P Q a w := by
  refine wpIn_rangeFunc fun fn hfn => ?_
  rw [hro]
  obtain ⟨rc, hrc⟩ : ∃ rc : LoopState → Option Code → Loop, rc = fun st pe => { state := st, pending := pe, fn, tmps := a.tmps, params := ps, assign, body, defers := w.heap.size } := ⟨_, rfl⟩
  have hent := run_enterLoop_outer (P := P) (w := w) fn a.tmps ps assign body
  obtain ⟨V, hV⟩ : ∃ V, V = (w.alloc (.deferred (some []))).alloc (.loop (rc .ready none)) := ⟨_, rfl⟩
  have hVs : V.heap.size = w.heap.size + 2 := by rw [hV]; simp
  have hbk : Books w.heap.size rc .ready none V := by
    constructor
    · have := World.alloc_heap_new (w.alloc (.deferred (some []))) (.loop (rc .ready none))
      rw [hV]
      rwa [World.size_alloc] at this
    · rw [hV]
      exact (Below.heap_alloc _ _ _ (by simp)).trans (World.alloc_heap_new w _)
  have hVI : I [] V := by rw [hV]; exact hI.own.alloc _ (hI.own.alloc _ h0)
  have hVb : Below w0.heap.size w0 V := by
    rw [hV]
    exact hb0.trans ((((Below.refl _ w).alloc (Nat.le_refl _) _).alloc (by simp) _).mono hb0.size)
  have hVe : (Instr.enterLoop fn a.tmps ps assign body none).run P w = .ok (w.heap.size + 1, [{ target := .collected w.heap.size, args := #[] }]) V := by rw [hV, hrc]; exact hent
  clear hent hV
  refine ⟨_, _, V, { target := .fn (.func gf) lb, args := #[.func (.yield (w.heap.size + 1)) #[] #[]] }, V, gf, #[.func (.yield (w.heap.size + 1)) #[] #[]] ++ lb, V, hVe, by simp only [resolve, hg]; simp [go_sem], fun f' hf' => by simp [Target.leads] at hf'; subst hf'; exact hFg, by simp [invoke, go_sem, eg], fun _ => h1, ?_⟩
  have hge : ∀ {X : World} {row : Option Nat}, (∀ r, row = some r → ∃ o : Obj, X.heap[r]? = some o ∧ ((V.heap.size ≤ r ∧ o.isCells = false) ∨ (o.isCells = true ∧ Lo r o))) → (∀ r, row = some r → ∃ o : Obj, X.heap[r]? = some o ∧ ((w.heap.size ≤ r ∧ o.isCells = false) ∨ (o.isCells = true ∧ Lo r o))) := fun hr r e => by
    obtain ⟨o, b, ⟨c, d⟩ | c⟩ := hr r e
    · exact ⟨o, b, .inl ⟨by omega, d⟩⟩
    · exact ⟨o, b, .inr c⟩
  have hgb : ∀ {X : World} {row : Option Nat}, (∀ r, row = some r → ∃ o : Obj, X.heap[r]? = some o ∧ ((V.heap.size ≤ r ∧ o.isCells = false) ∨ (o.isCells = true ∧ Lo r o))) → (∀ r, row = some r → w.heap.size + 2 ≤ r ∨ ∃ o : Obj, X.heap[r]? = some o ∧ o.isCells = true) := fun hr r e => by
    obtain ⟨o, b, ⟨c, d⟩ | c⟩ := hr r e
    · exact .inl (by omega)
    · exact .inr ⟨o, b, c.1⟩
  refine (hseq (w.heap.size + 1) (fun pre W => I pre W ∧ Books w.heap.size rc .ready none W) (fun pre W => ∃ c, Ix c pre W ∧ Books w.heap.size rc .done (some c) W) V hVb (by have := hb0.size; omega) ?_ ?_ ?_ ⟨hVI, hbk⟩).mono ?_
  · intro s X Y row hs hg' hr
    exact ⟨hI s X Y row hs.1 hg' (hge hr), hs.2.grown hg' (hgb hr)⟩
  · rintro s X Y row ⟨c, hc, hb⟩ hg' hr
    exact ⟨c, hIx c s X Y row hc hg' (hge hr), hb.grown hg' (hgb hr)⟩
  · -- one round
    rintro pre x W0 args ⟨hi0, hb0'⟩ hpre henc
    have hyld := run_yield (P := P) (args := args) hb0'.rcd (by rw [hrc]; exact hps x W0 args henc)
    rw [hrc] at hyld
    refine ⟨fn, _, assign, body, hyld, roundIn_of_wpIn hfn (hassign _ x args W0 _ (by have := hb0'.lt; omega) henc (fun a1 W kA pA => ?_))⟩
    clear hyld
    have hi := hI pre W0 W none hi0 ⟨kA.os, kA.tape, kA.output, kA.size, fun i hi _ => kA.block i hi (by simp)⟩ (fun r e => by cases e)
    have hb := hb0'.grown (row := none) ⟨kA.os, kA.tape, kA.output, kA.size, fun i hi _ => kA.block i hi (by simp)⟩ (fun r e => by cases e)
    have hkA := hKa W0 W (by have := hb0'.lt; omega) kA
    have hbz : w.heap.size + 2 ≤ W.heap.size := by have := hb.lt; omega
    have hbusy : (rc .ready none).state = .ready := by rw [hrc]
    refine ⟨_, run_beginRound hb.rcd hbusy, ?_⟩
    have heq : ({ rc .ready none with state := .busy } : Loop) = rc .busy none := by rw [hrc]
    rw [heq]
    have hb2 := hb.turn .busy none
    refine wpIn_mono (hbody _ pre x a1 _ (by simpa using hbz) (hI.own.putObj _ hi (by omega) hb.rcd rfl) ((hPA x a1).putObj (s := ()) _ pA (by omega) hb.rcd rfl) hpre) ?_
    have hk0 : Kp W0 (W.putObj (w.heap.size + 1) (.loop (rc .busy none))) := hKt hkA (hKb _ _ _ hb.rcd rfl)
    have fin : ∀ (jump : Option Code) (W3 : World), Books w.heap.size rc .busy none W3 → (Instr.endRound (w.heap.size + 1) jump).run P W3 = .ok (.bool jump.isNone) (W3.putObj (w.heap.size + 1) (.loop (rc (if jump.isNone then .ready else .done) jump))) := fun jump W3 hb3 => by
      have := run_endRound (P := P) jump hb3.rcd
      rw [hrc] at this ⊢
      exact this
    rintro e a3 W3 hp
    cases e with
    | normal =>
      obtain ⟨hk3, hkp3, hi3⟩ := hp
      have hb3 := hb2.from hk3
      exact ⟨_, _, fin none W3 hb3, .inl ⟨rfl, ⟨hI.own.putObj _ hi3 (by omega) hb3.rcd rfl, hb3.turn .ready none⟩, hKt hk0 (hKt hkp3 (hKb _ _ _ hb3.rcd rfl))⟩⟩
    | ret =>
      obtain ⟨hk3, hkp3, hi3⟩ := hp
      have hb3 := hb2.from hk3
      exact ⟨_, _, fin (some .ret) W3 hb3, .inr ⟨rfl, ⟨.ret, (hIx _).own.putObj _ hi3 (by omega) hb3.rcd rfl, hb3.turn .done (some .ret)⟩, hKt hk0 (hKt hkp3 (hKb _ _ _ hb3.rcd rfl))⟩⟩
    | exit id =>
      obtain ⟨hk3, hkp3, hi3⟩ := hp
      have hb3 := hb2.from hk3
      exact ⟨_, _, fin (some (.exit id)) W3 hb3, .inr ⟨rfl, ⟨.exit id, (hIx _).own.putObj _ hi3 (by omega) hb3.rcd rfl, hb3.turn .done (some (.exit id))⟩, hKt hk0 (hKt hkp3 (hKb _ _ _ hb3.rcd rfl))⟩⟩
    | goto t =>
      obtain ⟨hk3, hkp3, hi3⟩ := hp
      have hb3 := hb2.from hk3
      exact ⟨_, _, fin (some (.goto t)) W3 hb3, .inr ⟨rfl, ⟨.goto t, (hIx _).own.putObj _ hi3 (by omega) hb3.rcd rfl, hb3.turn .done (some (.goto t))⟩, hKt hk0 (hKt hkp3 (hKb _ _ _ hb3.rcd rfl))⟩⟩
    | panic ch => exact hp.elim
    | outgrown => exact hp.elim
  · -- behind the iterator
    have fin2 : ∀ (st : LoopState) (pe : Option Code) (W2 : World), st ≠ .busy → Books w.heap.size rc st pe W2 → (Instr.endLoop (w.heap.size + 1)).run P W2 = .ok pe (W2.putObj (w.heap.size + 1) (.loop (rc .exhausted pe))) := fun st pe W2 hst hb2 => by
      have := run_endLoop (P := P) hb2.rcd (by rw [hrc]; exact hst)
      rw [hrc] at this ⊢
      exact this
    rintro e W2 ⟨⟨v, rfl⟩, (⟨hi, hb⟩ | ⟨pre, hpre, c, hi, hb⟩)⟩
    · exact ⟨none, _, fin2 _ _ _ (by simp) hb, hdone _ _ (Nat.le_refl _) (hI.own.putObj _ hi (by omega) hb.rcd rfl) ((World.putObj_heap_other (by omega)).trans hb.dfs)⟩
    · exact ⟨some c, _, fin2 _ _ _ (by simp) hb, hstop _ c pre _ (Nat.le_refl _) hpre ((hIx c).own.putObj _ hi (by omega) hb.rcd rfl) ((World.putObj_heap_other (by omega)).trans hb.dfs)⟩
end
end Go.Proofs.Yteanpgkonhdbpaa

namespace Go.Proofs.Yteanpgkonhdbpaa
open Go.RowKit
section
variable {F : Fence} {n : Nat} {P : Program} {w : World} {a : Act} {ops : Array Oper} {Q : Exit → Act → World → Prop} {K : Act → World → Prop} {i : Nat} {dst : Option Tmp} {op : Op} {tyy : TypeId} {pos : String} {after : Array Edge} {gd : Option (Nat × Bool)}
/-- An operation that runs to a value and a world (a slice built, say), in a drawn region of an iterator. -/
theorem oi_run {v : Value} {w' : World} (hi : ops[i]? = some ⟨dst, op, tyy, pos, after, gd⟩) (hF : Open F) (hd : NoDef ops) (hw : Region.wanted ⟨dst, op, tyy, pos, after, gd⟩ (yielded ops a.tmps) = true)
    (hy : (execOp a.eval ⟨dst, op, tyy, pos, after, gd⟩).run P w = .ok (.value v) w') (h : K (a.put dst v) w') : wpOpIn F n P ops Q i K a w := by
  refine wpOpIn_step hi (fun K' hK => ?_)
  rw [if_pos hw]
  unfold Oper.wpIn
  refine ⟨fun f _ => hF.fn f, ?_⟩
  rw [Oper.semAt_plain F _ _ (fun c => hd i _ c hi), hy]
  exact hK _ _ h
end
end Go.Proofs.Yteanpgkonhdbpaa
