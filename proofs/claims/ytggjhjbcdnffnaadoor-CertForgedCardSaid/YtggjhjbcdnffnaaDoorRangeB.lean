/- A range over a function whose iterator writes cells of its own (of types Ts) between two rounds. No condition. A range over a function whose loop variables lie in boxes of each round's own. No condition. -/
import Derived.Test.YtggjhjbcdnffnaaDoorIter
namespace Go.Proofs.YtggjhjbcdnffnaaDoor
open Go.RowKit

/-- Stable under new blocks, under changes of what is no cells from block B on, and of the cells that Lo lets change. -/
def OwnT {β : Type} (B : Nat) (Lo : Nat → Obj → Prop) (I : β → World → Prop) : Prop :=
  ∀ s X Y row, I s X → X.grownBy Y row → (∀ r, row = some r → ∃ o : Obj, X.heap[r]? = some o ∧ ((B ≤ r ∧ o.isCells = false) ∨ (o.isCells = true ∧ Lo r o))) → I s Y
section
variable {β : Type} {B B' : Nat} {Lo : Nat → Obj → Prop} {I I' : β → World → Prop}
theorem OwnT.own (h : OwnT B Lo I) : OwnFrom B I :=
  fun s X Y row hs hg hr => h s X Y row hs hg (fun r e => by obtain ⟨a, o, b, c⟩ := hr r e; exact ⟨o, b, .inl ⟨a, c⟩⟩)
theorem OwnT.mono (h : OwnT B Lo I) (hB : B ≤ B') : OwnT B' Lo I :=
  fun s X Y row hs hg hr => h s X Y row hs hg (fun r e => by
    obtain ⟨o, b, ⟨c, d⟩ | c⟩ := hr r e
    · exact ⟨o, b, .inl ⟨by omega, d⟩⟩
    · exact ⟨o, b, .inr c⟩)
theorem OwnT.and (h : OwnT B Lo I) (k : OwnT B Lo I') : OwnT B Lo (fun s W => I s W ∧ I' s W) :=
  fun s X Y row hs hg hr => ⟨h s X Y row hs.1 hg hr, k s X Y row hs.2 hg hr⟩
theorem OwnT.shift {α : Type} {J : List α → World → Prop} (h : OwnT B Lo J) (pre : List α) : OwnT B Lo (fun ys => J (pre ++ ys)) :=
  fun s X Y row hs hg hr => h (pre ++ s) X Y row hs hg hr
theorem OwnT.alloc (h : OwnT B Lo I) {s : β} {W : World} (o : Obj) (hs : I s W) : I s (W.alloc o) := h.own.alloc o hs
/-- One cell stored. -/
theorem OwnT.set (h : OwnT B Lo I) {s : β} {W : World} {b : Nat} (u : Value) (hs : I s W) {o : Obj} (hp : W.heap[b]? = some o) (hc : o.isCells = true) (hl : Lo b o) : I s (W.setCell ⟨b, 0, none⟩ u) :=
  h s W _ (some b) hs (grownBy_setCell' W b u) (fun r e => by cases e; exact ⟨o, hp, .inr ⟨hc, hl⟩⟩)
end
theorem OwnFrom.toT {β : Type} {B : Nat} {I : β → World → Prop} (h : OwnFrom B I) : OwnT B (fun _ _ => False) I :=
  fun s X Y row hs hg hr => h s X Y row hs hg (fun r e => by
    obtain ⟨o, b, ⟨c, d⟩ | ⟨_, c⟩⟩ := hr r e
    · exact ⟨c, o, b, d⟩
    · exact c.elim)
/-- Cells of the types that are not in Us hold what they held. -/
def KeepT (Us : List Nat) (W W' : World) : Prop := W.heap.size ≤ W'.heap.size ∧ ∀ (g : Nat) cs t fr, W.heap[g]? = some (.cells cs t fr) → t ∉ Us → W'.heap[g]? = W.heap[g]?
theorem KeepT.trans {Us : List Nat} {A B C : World} (h : KeepT Us A B) (k : KeepT Us B C) : KeepT Us A C :=
  ⟨Nat.le_trans h.1 k.1, fun g cs t fr hg ht => (k.2 g cs t fr ((h.2 g cs t fr hg ht).trans hg) ht).trans (h.2 g cs t fr hg ht)⟩
/-- The contract of an iterator that hands on xs, and may write loose cells meanwhile. -/
def SeqT {α : Type} (F : Fence) (n : Nat) (P : Program) (Lo : Nat → Obj → Prop) (g : Nat) (lb : Array Value) (encs : α → Array Value) (Kp : World → World → Prop) (xs : List α) (w : World) : Prop :=
  ∀ (l : Nat) (J Jx : List α → World → Prop) (W : World), Below w.heap.size w W → w.heap.size + 2 ≤ W.heap.size → OwnT W.heap.size Lo J → OwnT W.heap.size Lo Jx →
    (∀ pre x W1, J pre W1 → pre ++ [x] <+: xs → YieldAt F (n - 1) P l (encs x) W1 fun e W' =>
      (e = .returned (.bool true) ∧ J (pre ++ [x]) W' ∧ Kp W1 W') ∨ (e = .returned (.bool false) ∧ Jx (pre ++ [x]) W' ∧ Kp W1 W')) →
    J [] W →
    CallsIn F n P g (#[.func (.yield l) #[] #[]] ++ lb) W fun e W' => (∃ v, e = .returned v) ∧ (J xs W' ∨ ∃ pre, pre <+: xs ∧ Jx pre W')

/-- An iterator that changes nothing but walks' objects is one of these. -/
theorem SeqP.toT {α : Type} {F : Fence} {n : Nat} {P : Program} {g : Nat} {lb : Array Value} {encs : α → Array Value} {Kp : World → World → Prop} {xs : List α} {w : World} (Lo : Nat → Obj → Prop) (h : SeqP F n P g lb encs Kp xs w) : SeqT F n P Lo g lb encs Kp xs w :=
  fun l J Jx W hW _ hJ hJx hY h0 => h l J Jx W hW (fun s X Y row hs hg hr => hJ s X Y row hs hg (fun r e => by obtain ⟨a, o, b, c⟩ := hr r e; exact ⟨o, b, .inl ⟨a, Obj.not_cells_of_walk c⟩⟩))
    (fun s X Y row hs hg hr => hJx s X Y row hs hg (fun r e => by obtain ⟨a, o, b, c⟩ := hr r e; exact ⟨o, b, .inl ⟨a, Obj.not_cells_of_walk c⟩⟩)) (fun pre x W1 hj hp => YieldAt.mono (hY pre x W1 hj hp) fun e W' hw => hw.imp id (fun ⟨a, b, _⟩ => ⟨a, b⟩)) h0
section
variable {F : Fence} {n : Nat} {P : Program} {w : World}
/-- The loop's two blocks: its record (in the state st, with the jump pe), and its list of deferred calls, which is empty. -/
structure Books (B : Nat) (rc : LoopState → Option Code → Loop) (st : LoopState) (pe : Option Code) (W : World) : Prop where
  rcd : W.heap[B + 1]? = some (.loop (rc st pe))
  dfs : W.heap[B]? = some (.deferred (some []))
theorem Books.lt {B : Nat} {rc : LoopState → Option Code → Loop} {st : LoopState} {pe : Option Code} {W : World} (h : Books B rc st pe W) : B + 1 < W.heap.size := (Array.getElem?_eq_some_iff.1 h.rcd).1
theorem Books.grown {B : Nat} {rc : LoopState → Option Code → Loop} {st : LoopState} {pe : Option Code} {X Y : World} {row : Option Nat} (h : Books B rc st pe X) (hg : X.grownBy Y row) (hr : ∀ r, row = some r → B + 2 ≤ r ∨ ∃ o : Obj, X.heap[r]? = some o ∧ o.isCells = true) : Books B rc st pe Y := by
  have := h.lt
  refine ⟨(hg.block _ (by omega) (fun e => ?_)).trans h.rcd, (hg.block _ (by omega) (fun e => ?_)).trans h.dfs⟩
  · rcases hr _ e.symm with h1 | ⟨o, h1, h2⟩
    · omega
    · rw [h.rcd] at h1; cases h1; cases h2
  · rcases hr _ e.symm with h1 | ⟨o, h1, h2⟩
    · omega
    · rw [h.dfs] at h1; cases h1; cases h2
theorem Books.from {B : Nat} {rc : LoopState → Option Code → Loop} {st : LoopState} {pe : Option Code} {X Y : World} (h : Books B rc st pe X) (k : KeepsFrom B X Y) : Books B rc st pe Y :=
  ⟨k.same _ _ (by omega) h.rcd rfl, k.same _ _ (Nat.le_refl _) h.dfs rfl⟩
theorem Books.turn {B : Nat} {rc : LoopState → Option Code → Loop} {st : LoopState} {pe : Option Code} {W : World} (h : Books B rc st pe W) (st' : LoopState) (pe' : Option Code) : Books B rc st' pe' (W.putObj (B + 1) (.loop (rc st' pe'))) :=
  ⟨World.putObj_heap_same h.lt, (World.putObj_heap_other (by omega)).trans h.dfs⟩

/-- How a body may be left, and what it keeps. -/
def ownPostT {α : Type} (B : Nat) (Kp : World → World → Prop) (I : List α → World → Prop) (Ix : Code → List α → World → Prop) (xs : List α) (W : World) : Exit → Act → World → Prop
  | .normal, _, W' => KeepsFrom B W W' ∧ Kp W W' ∧ I xs W'
  | .ret, _, W' => KeepsFrom B W W' ∧ Kp W W' ∧ Ix .ret xs W'
  | .exit id, _, W' => KeepsFrom B W W' ∧ Kp W W' ∧ Ix (.exit id) xs W'
  | .goto t, _, W' => KeepsFrom B W W' ∧ Kp W W' ∧ Ix (.goto t) xs W'
  | .panic _, _, _ => False
  | .outgrown, _, _ => False
/-- A range over such an iterator, where the loop variables lie in no box. -/
theorem wpIn_rangeT {α : Type} {Lo : Nat → Obj → Prop} {g : Operand} {ps : Array Tmp} {assign body : Code} {Q : Exit → Act → World → Prop} {a : Act}
    (hro : F.round = none) (h1 : 1 ≤ n) {gf : Nat} {lb : Array Value} (hg : a.eval g = .func (.func gf) #[] lb) (hFg : F.fn gf) (eg : ∀ args w, (callFunc gf args).run P w = .ok (.enter gf args) w)
    {encs : α → Array Value} {Kp : World → World → Prop} {xs : List α} {w0 : World} (hseq : SeqT F (n - 1) P Lo gf lb encs Kp xs w0)
    (hKt : ∀ {A B C : World}, Kp A B → Kp B C → Kp A C) (hKb : ∀ (W : World) (o o' : Obj), W.heap[w.heap.size + 1]? = some o → o.isCells = false → Kp W (W.putObj (w.heap.size + 1) o'))
    (hb0 : Below w0.heap.size w0 w) (hps : ∀ x, (encs x).size = ps.size)
    (I : List α → World → Prop) (Ix : Code → List α → World → Prop) (hI : OwnT w.heap.size Lo I) (hIx : ∀ c, OwnT w.heap.size Lo (Ix c)) (h0 : I [] w) (a₁ : α → Act)
    (hassign : ∀ (l : Nat) (x : α) (W : World) (K : Act → World → Prop), K (a₁ x) W →
      assign.wpIn (F.inRound l) (n - 1 - 1) P (Exit.then K (fun _ _ _ => False)) { tmps := (ps.zip (encs x)).foldl (fun t (p, v) => t.setIfInBounds p v) a.tmps, defers := [] } W)
    (hbody : ∀ (l : Nat) (pre : List α) (x : α) (W : World), I pre W → pre ++ [x] <+: xs → body.wpIn (F.inRound l) (n - 1 - 1) P (ownPostT w.heap.size Kp I Ix (pre ++ [x]) W) (a₁ x) W)
    (hdone : ∀ (D : Nat) (W : World), w.heap.size ≤ D → I xs W → W.heap[D]? = some (.deferred (some [])) → Q .normal { a with defers := { target := .collected D, args := #[] } :: a.defers } W)
    (hstop : ∀ (D : Nat) (c : Code) (pre : List α) (W : World), w.heap.size ≤ D → pre <+: xs → Ix c pre W → W.heap[D]? = some (.deferred (some [])) → c.wpIn F n P Q { a with defers := { target := .collected D, args := #[] } :: a.defers } W) :
    (Code.rangeFunc g ps assign body).wpIn F n P Q a w := by
  refine wpIn_rangeFunc fun fn hfn => ?_
  rw [hro]
  obtain ⟨rc, hrc⟩ : ∃ rc : LoopState → Option Code → Loop, rc = fun st pe => { state := st, pending := pe, fn, tmps := a.tmps, params := ps, assign, body, defers := w.heap.size } := ⟨_, rfl⟩
  have hent := run_enterLoop_outer (P := P) (w := w) fn a.tmps ps assign body
  obtain ⟨V, hV⟩ : ∃ V, V = (w.alloc (.deferred (some []))).alloc (.loop (rc .ready none)) := ⟨_, rfl⟩
  have hVs : V.heap.size = w.heap.size + 2 := by rw [hV]; simp
  have hbk : Books w.heap.size rc .ready none V := by
    constructor
    · have := World.alloc_heap_new (w.alloc (.deferred (some []))) (.loop (rc .ready none))
      rw [hV]
      rwa [World.size_alloc] at this
    · rw [hV]
      exact (Below.heap_alloc _ _ _ (by simp)).trans (World.alloc_heap_new w _)
  have hVI : I [] V := by rw [hV]; exact hI.own.alloc _ (hI.own.alloc _ h0)
  have hVb : Below w0.heap.size w0 V := by
    rw [hV]
    exact hb0.trans ((((Below.refl _ w).alloc (Nat.le_refl _) _).alloc (by simp) _).mono hb0.size)
  have hVe : (Instr.enterLoop fn a.tmps ps assign body none).run P w = .ok (w.heap.size + 1, [{ target := .collected w.heap.size, args := #[] }]) V := by rw [hV, hrc]; exact hent
  clear hent hV
  refine ⟨_, _, V, { target := .fn (.func gf) lb, args := #[.func (.yield (w.heap.size + 1)) #[] #[]] }, V, gf, #[.func (.yield (w.heap.size + 1)) #[] #[]] ++ lb, V, hVe, by simp only [resolve, hg]; simp [go_sem], fun f' hf' => by simp [Target.leads] at hf'; subst hf'; exact hFg, by simp [invoke, go_sem, eg], fun _ => h1, ?_⟩
  have hge : ∀ {X : World} {row : Option Nat}, (∀ r, row = some r → ∃ o : Obj, X.heap[r]? = some o ∧ ((V.heap.size ≤ r ∧ o.isCells = false) ∨ (o.isCells = true ∧ Lo r o))) → (∀ r, row = some r → ∃ o : Obj, X.heap[r]? = some o ∧ ((w.heap.size ≤ r ∧ o.isCells = false) ∨ (o.isCells = true ∧ Lo r o))) := fun hr r e => by
    obtain ⟨o, b, ⟨c, d⟩ | c⟩ := hr r e
    · exact ⟨o, b, .inl ⟨by omega, d⟩⟩
    · exact ⟨o, b, .inr c⟩
  have hgb : ∀ {X : World} {row : Option Nat}, (∀ r, row = some r → ∃ o : Obj, X.heap[r]? = some o ∧ ((V.heap.size ≤ r ∧ o.isCells = false) ∨ (o.isCells = true ∧ Lo r o))) → (∀ r, row = some r → w.heap.size + 2 ≤ r ∨ ∃ o : Obj, X.heap[r]? = some o ∧ o.isCells = true) := fun hr r e => by
    obtain ⟨o, b, ⟨c, d⟩ | c⟩ := hr r e
    · exact .inl (by omega)
    · exact .inr ⟨o, b, c.1⟩
  refine (hseq (w.heap.size + 1) (fun pre W => I pre W ∧ Books w.heap.size rc .ready none W) (fun pre W => ∃ c, Ix c pre W ∧ Books w.heap.size rc .done (some c) W) V hVb (by have := hb0.size; omega) ?_ ?_ ?_ ⟨hVI, hbk⟩).mono ?_
  · intro s X Y row hs hg' hr
    exact ⟨hI s X Y row hs.1 hg' (hge hr), hs.2.grown hg' (hgb hr)⟩
  · rintro s X Y row ⟨c, hc, hb⟩ hg' hr
    exact ⟨c, hIx c s X Y row hc hg' (hge hr), hb.grown hg' (hgb hr)⟩
  · -- one round
    rintro pre x W ⟨hi, hb⟩ hpre
    have hyld := run_yield (P := P) (args := encs x) hb.rcd (by rw [hrc]; exact hps x)
    rw [hrc] at hyld
    refine ⟨fn, _, assign, body, hyld, roundIn_of_wpIn hfn (hassign _ x W _ ?_)⟩
    clear hyld
    have hbusy : (rc .ready none).state = .ready := by rw [hrc]
    refine ⟨_, run_beginRound hb.rcd hbusy, ?_⟩
    have heq : ({ rc .ready none with state := .busy } : Loop) = rc .busy none := by rw [hrc]
    rw [heq]
    have hb2 := hb.turn .busy none
    refine wpIn_mono (hbody _ pre x _ (hI.own.putObj _ hi (by omega) hb.rcd rfl) hpre) ?_
    have hk0 : Kp W (W.putObj (w.heap.size + 1) (.loop (rc .busy none))) := hKb _ _ _ hb.rcd rfl
    have fin : ∀ (jump : Option Code) (W3 : World), Books w.heap.size rc .busy none W3 → (Instr.endRound (w.heap.size + 1) jump).run P W3 = .ok (.bool jump.isNone) (W3.putObj (w.heap.size + 1) (.loop (rc (if jump.isNone then .ready else .done) jump))) := fun jump W3 hb3 => by
      have := run_endRound (P := P) jump hb3.rcd
      rw [hrc] at this ⊢
      exact this
    rintro e a3 W3 hp
    cases e with
    | normal =>
      obtain ⟨hk3, hkp3, hi3⟩ := hp
      have hb3 := hb2.from hk3
      exact ⟨_, _, fin none W3 hb3, .inl ⟨rfl, ⟨hI.own.putObj _ hi3 (by omega) hb3.rcd rfl, hb3.turn .ready none⟩, hKt hk0 (hKt hkp3 (hKb _ _ _ hb3.rcd rfl))⟩⟩
    | ret =>
      obtain ⟨hk3, hkp3, hi3⟩ := hp
      have hb3 := hb2.from hk3
      exact ⟨_, _, fin (some .ret) W3 hb3, .inr ⟨rfl, ⟨.ret, (hIx _).own.putObj _ hi3 (by omega) hb3.rcd rfl, hb3.turn .done (some .ret)⟩, hKt hk0 (hKt hkp3 (hKb _ _ _ hb3.rcd rfl))⟩⟩
    | exit id =>
      obtain ⟨hk3, hkp3, hi3⟩ := hp
      have hb3 := hb2.from hk3
      exact ⟨_, _, fin (some (.exit id)) W3 hb3, .inr ⟨rfl, ⟨.exit id, (hIx _).own.putObj _ hi3 (by omega) hb3.rcd rfl, hb3.turn .done (some (.exit id))⟩, hKt hk0 (hKt hkp3 (hKb _ _ _ hb3.rcd rfl))⟩⟩
    | goto t =>
      obtain ⟨hk3, hkp3, hi3⟩ := hp
      have hb3 := hb2.from hk3
      exact ⟨_, _, fin (some (.goto t)) W3 hb3, .inr ⟨rfl, ⟨.goto t, (hIx _).own.putObj _ hi3 (by omega) hb3.rcd rfl, hb3.turn .done (some (.goto t))⟩, hKt hk0 (hKt hkp3 (hKb _ _ _ hb3.rcd rfl))⟩⟩
    | panic ch => exact hp.elim
    | outgrown => exact hp.elim
  · -- behind the iterator
    have fin2 : ∀ (st : LoopState) (pe : Option Code) (W2 : World), st ≠ .busy → Books w.heap.size rc st pe W2 → (Instr.endLoop (w.heap.size + 1)).run P W2 = .ok pe (W2.putObj (w.heap.size + 1) (.loop (rc .exhausted pe))) := fun st pe W2 hst hb2 => by
      have := run_endLoop (P := P) hb2.rcd (by rw [hrc]; exact hst)
      rw [hrc] at this ⊢
      exact this
    rintro e W2 ⟨⟨v, rfl⟩, (⟨hi, hb⟩ | ⟨pre, hpre, c, hi, hb⟩)⟩
    · exact ⟨none, _, fin2 _ _ _ (by simp) hb, hdone _ _ (Nat.le_refl _) (hI.own.putObj _ hi (by omega) hb.rcd rfl) ((World.putObj_heap_other (by omega)).trans hb.dfs)⟩
    · exact ⟨some c, _, fin2 _ _ _ (by simp) hb, hstop _ c pre _ (Nat.le_refl _) hpre ((hIx c).own.putObj _ hi (by omega) hb.rcd rfl) ((World.putObj_heap_other (by omega)).trans hb.dfs)⟩
end
end Go.Proofs.YtggjhjbcdnffnaaDoor

namespace Go.Proofs.YtggjhjbcdnffnaaDoor
open Go.RowKit
section
variable {F : Fence} {n : Nat} {P : Program} {w : World}
/-- A range over such an iterator, where the loop variables may lie in boxes that each round makes. -/
theorem wpIn_rangeB {α : Type} {Lo : Nat → Obj → Prop} {g : Operand} {ps : Array Tmp} {assign body : Code} {Q : Exit → Act → World → Prop} {a : Act}
    (hro : F.round = none) (h1 : 1 ≤ n) {gf : Nat} {lb : Array Value} (hg : a.eval g = .func (.func gf) #[] lb) (hFg : F.fn gf) (eg : ∀ args w, (callFunc gf args).run P w = .ok (.enter gf args) w)
    {encs : α → Array Value} {Kp : World → World → Prop} {xs : List α} {w0 : World} (hseq : SeqT F (n - 1) P Lo gf lb encs Kp xs w0)
    (hKt : ∀ {A B C : World}, Kp A B → Kp B C → Kp A C) (hKb : ∀ (W : World) (o o' : Obj), W.heap[w.heap.size + 1]? = some o → o.isCells = false → Kp W (W.putObj (w.heap.size + 1) o'))
    (hb0 : Below w0.heap.size w0 w) (hps : ∀ x, (encs x).size = ps.size)
    (I : List α → World → Prop) (Ix : Code → List α → World → Prop) (hI : OwnT w.heap.size Lo I) (hIx : ∀ c, OwnT w.heap.size Lo (Ix c)) (h0 : I [] w) (PA : α → Act → World → Prop) (hPA : ∀ x a1, OwnFrom w.heap.size (fun (_ : Unit) W => PA x a1 W)) (hKa : ∀ W W2, w.heap.size + 2 ≤ W.heap.size → Keep [] W W2 → Kp W W2)
    (hassign : ∀ (l : Nat) (x : α) (W : World) (K : Act → World → Prop), w.heap.size + 2 ≤ W.heap.size → (∀ a1 W2, Keep [] W W2 → PA x a1 W2 → K a1 W2) →
      assign.wpIn (F.inRound l) (n - 1 - 1) P (Exit.then K (fun _ _ _ => False)) { tmps := (ps.zip (encs x)).foldl (fun t (p, v) => t.setIfInBounds p v) a.tmps, defers := [] } W)
    (hbody : ∀ (l : Nat) (pre : List α) (x : α) (a1 : Act) (W : World), w.heap.size + 2 ≤ W.heap.size → I pre W → PA x a1 W → pre ++ [x] <+: xs → body.wpIn (F.inRound l) (n - 1 - 1) P (ownPostT w.heap.size Kp I Ix (pre ++ [x]) W) a1 W)
    (hdone : ∀ (D : Nat) (W : World), w.heap.size ≤ D → I xs W → W.heap[D]? = some (.deferred (some [])) → Q .normal { a with defers := { target := .collected D, args := #[] } :: a.defers } W)
    (hstop : ∀ (D : Nat) (c : Code) (pre : List α) (W : World), w.heap.size ≤ D → pre <+: xs → Ix c pre W → W.heap[D]? = some (.deferred (some [])) → c.wpIn F n P Q { a with defers := { target := .collected D, args := #[] } :: a.defers } W) :
    (Code.rangeFunc g ps assign body).wpIn F n P Q a w := by
  refine wpIn_rangeFunc fun fn hfn => ?_
  rw [hro]
  obtain ⟨rc, hrc⟩ : ∃ rc : LoopState → Option Code → Loop, rc = fun st pe => { state := st, pending := pe, fn, tmps := a.tmps, params := ps, assign, body, defers := w.heap.size } := ⟨_, rfl⟩
  have hent := run_enterLoop_outer (P := P) (w := w) fn a.tmps ps assign body
  obtain ⟨V, hV⟩ : ∃ V, V = (w.alloc (.deferred (some []))).alloc (.loop (rc .ready none)) := ⟨_, rfl⟩
  have hVs : V.heap.size = w.heap.size + 2 := by rw [hV]; simp
  have hbk : Books w.heap.size rc .ready none V := by
    constructor
    · have := World.alloc_heap_new (w.alloc (.deferred (some []))) (.loop (rc .ready none))
      rw [hV]
      rwa [World.size_alloc] at this
    · rw [hV]
      exact (Below.heap_alloc _ _ _ (by simp)).trans (World.alloc_heap_new w _)
  have hVI : I [] V := by rw [hV]; exact hI.own.alloc _ (hI.own.alloc _ h0)
  have hVb : Below w0.heap.size w0 V := by
    rw [hV]
    exact hb0.trans ((((Below.refl _ w).alloc (Nat.le_refl _) _).alloc (by simp) _).mono hb0.size)
  have hVe : (Instr.enterLoop fn a.tmps ps assign body none).run P w = .ok (w.heap.size + 1, [{ target := .collected w.heap.size, args := #[] }]) V := by rw [hV, hrc]; exact hent
  clear hent hV
  refine ⟨_, _, V, { target := .fn (.func gf) lb, args := #[.func (.yield (w.heap.size + 1)) #[] #[]] }, V, gf, #[.func (.yield (w.heap.size + 1)) #[] #[]] ++ lb, V, hVe, by simp only [resolve, hg]; simp [go_sem], fun f' hf' => by simp [Target.leads] at hf'; subst hf'; exact hFg, by simp [invoke, go_sem, eg], fun _ => h1, ?_⟩
  have hge : ∀ {X : World} {row : Option Nat}, (∀ r, row = some r → ∃ o : Obj, X.heap[r]? = some o ∧ ((V.heap.size ≤ r ∧ o.isCells = false) ∨ (o.isCells = true ∧ Lo r o))) → (∀ r, row = some r → ∃ o : Obj, X.heap[r]? = some o ∧ ((w.heap.size ≤ r ∧ o.isCells = false) ∨ (o.isCells = true ∧ Lo r o))) := fun hr r e => by
    obtain ⟨o, b, ⟨c, d⟩ | c⟩ := hr r e
    · exact ⟨o, b, .inl ⟨by omega, d⟩⟩
    · exact ⟨o, b, .inr c⟩
  have hgb : ∀ {X : World} {row : Option Nat}, (∀ r, row = some r → ∃ o : Obj, X.heap[r]? = some o ∧ ((V.heap.size ≤ r ∧ o.isCells = false) ∨ (o.isCells = true ∧ Lo r o))) → (∀ r, row = some r → w.heap.size + 2 ≤ r ∨ ∃ o : Obj, X.heap[r]? = some o ∧ o.isCells = true) := fun hr r e => by
    obtain ⟨o, b, ⟨c, d⟩ | c⟩ := hr r e
    · exact .inl (by omega)
    · exact .inr ⟨o, b, c.1⟩
  refine (hseq (w.heap.size + 1) (fun pre W => I pre W ∧ Books w.heap.size rc .ready none W) (fun pre W => ∃ c, Ix c pre W ∧ Books w.heap.size rc .done (some c) W) V hVb (by have := hb0.size; omega) ?_ ?_ ?_ ⟨hVI, hbk⟩).mono ?_
  · intro s X Y row hs hg' hr
    exact ⟨hI s X Y row hs.1 hg' (hge hr), hs.2.grown hg' (hgb hr)⟩
  · rintro s X Y row ⟨c, hc, hb⟩ hg' hr
    exact ⟨c, hIx c s X Y row hc hg' (hge hr), hb.grown hg' (hgb hr)⟩
  · -- one round
    rintro pre x W0 ⟨hi0, hb0'⟩ hpre
    have hyld := run_yield (P := P) (args := encs x) hb0'.rcd (by rw [hrc]; exact hps x)
    rw [hrc] at hyld
    refine ⟨fn, _, assign, body, hyld, roundIn_of_wpIn hfn (hassign _ x W0 _ (by have := hb0'.lt; omega) (fun a1 W kA pA => ?_))⟩
    clear hyld
    have hi := hI pre W0 W none hi0 ⟨kA.os, kA.tape, kA.output, kA.size, fun i hi _ => kA.block i hi (by simp)⟩ (fun r e => by cases e)
    have hb := hb0'.grown (row := none) ⟨kA.os, kA.tape, kA.output, kA.size, fun i hi _ => kA.block i hi (by simp)⟩ (fun r e => by cases e)
    have hkA := hKa W0 W (by have := hb0'.lt; omega) kA
    have hbz : w.heap.size + 2 ≤ W.heap.size := by have := hb.lt; omega
    have hbusy : (rc .ready none).state = .ready := by rw [hrc]
    refine ⟨_, run_beginRound hb.rcd hbusy, ?_⟩
    have heq : ({ rc .ready none with state := .busy } : Loop) = rc .busy none := by rw [hrc]
    rw [heq]
    have hb2 := hb.turn .busy none
    refine wpIn_mono (hbody _ pre x a1 _ (by simpa using hbz) (hI.own.putObj _ hi (by omega) hb.rcd rfl) ((hPA x a1).putObj (s := ()) _ pA (by omega) hb.rcd rfl) hpre) ?_
    have hk0 : Kp W0 (W.putObj (w.heap.size + 1) (.loop (rc .busy none))) := hKt hkA (hKb _ _ _ hb.rcd rfl)
    have fin : ∀ (jump : Option Code) (W3 : World), Books w.heap.size rc .busy none W3 → (Instr.endRound (w.heap.size + 1) jump).run P W3 = .ok (.bool jump.isNone) (W3.putObj (w.heap.size + 1) (.loop (rc (if jump.isNone then .ready else .done) jump))) := fun jump W3 hb3 => by
      have := run_endRound (P := P) jump hb3.rcd
      rw [hrc] at this ⊢
      exact this
    rintro e a3 W3 hp
    cases e with
    | normal =>
      obtain ⟨hk3, hkp3, hi3⟩ := hp
      have hb3 := hb2.from hk3
      exact ⟨_, _, fin none W3 hb3, .inl ⟨rfl, ⟨hI.own.putObj _ hi3 (by omega) hb3.rcd rfl, hb3.turn .ready none⟩, hKt hk0 (hKt hkp3 (hKb _ _ _ hb3.rcd rfl))⟩⟩
    | ret =>
      obtain ⟨hk3, hkp3, hi3⟩ := hp
      have hb3 := hb2.from hk3
      exact ⟨_, _, fin (some .ret) W3 hb3, .inr ⟨rfl, ⟨.ret, (hIx _).own.putObj _ hi3 (by omega) hb3.rcd rfl, hb3.turn .done (some .ret)⟩, hKt hk0 (hKt hkp3 (hKb _ _ _ hb3.rcd rfl))⟩⟩
    | exit id =>
      obtain ⟨hk3, hkp3, hi3⟩ := hp
      have hb3 := hb2.from hk3
      exact ⟨_, _, fin (some (.exit id)) W3 hb3, .inr ⟨rfl, ⟨.exit id, (hIx _).own.putObj _ hi3 (by omega) hb3.rcd rfl, hb3.turn .done (some (.exit id))⟩, hKt hk0 (hKt hkp3 (hKb _ _ _ hb3.rcd rfl))⟩⟩
    | goto t =>
      obtain ⟨hk3, hkp3, hi3⟩ := hp
      have hb3 := hb2.from hk3
      exact ⟨_, _, fin (some (.goto t)) W3 hb3, .inr ⟨rfl, ⟨.goto t, (hIx _).own.putObj _ hi3 (by omega) hb3.rcd rfl, hb3.turn .done (some (.goto t))⟩, hKt hk0 (hKt hkp3 (hKb _ _ _ hb3.rcd rfl))⟩⟩
    | panic ch => exact hp.elim
    | outgrown => exact hp.elim
  · -- behind the iterator
    have fin2 : ∀ (st : LoopState) (pe : Option Code) (W2 : World), st ≠ .busy → Books w.heap.size rc st pe W2 → (Instr.endLoop (w.heap.size + 1)).run P W2 = .ok pe (W2.putObj (w.heap.size + 1) (.loop (rc .exhausted pe))) := fun st pe W2 hst hb2 => by
      have := run_endLoop (P := P) hb2.rcd (by rw [hrc]; exact hst)
      rw [hrc] at this ⊢
      exact this
    rintro e W2 ⟨⟨v, rfl⟩, (⟨hi, hb⟩ | ⟨pre, hpre, c, hi, hb⟩)⟩
    · exact ⟨none, _, fin2 _ _ _ (by simp) hb, hdone _ _ (Nat.le_refl _) (hI.own.putObj _ hi (by omega) hb.rcd rfl) ((World.putObj_heap_other (by omega)).trans hb.dfs)⟩
    · exact ⟨some c, _, fin2 _ _ _ (by simp) hb, hstop _ c pre _ (Nat.le_refl _) hpre ((hIx c).own.putObj _ hi (by omega) hb.rcd rfl) ((World.putObj_heap_other (by omega)).trans hb.dfs)⟩
end
end Go.Proofs.YtggjhjbcdnffnaaDoor
