/- A range over a function whose iterator writes cells of its own (of types Ts) between two rounds. No condition. A range over a function whose loop variables lie in boxes of each round's own. No condition. Regions that draw their order and call a loop's body (yield), under a condition S on the world that holds throughout: whatever yields its value in all worlds of S may be taken first. No condition. What a round of a loop keeps, whatever cells its body writes: those of the types Us, from block B0 on. No condition. -/
import Derived.Test.YteflgdnekflbbaaDoorIter
import Derived.Test.YteflgdnekflbbaaDoorPend
namespace Go.Proofs.YteflgdnekflbbaaDoor
open Go.RowKit

/-- Stable under new blocks, under changes of what is no cells from block B on, and of the cells that Lo lets change. -/
def OwnT {β : Type} (B : Nat) (Lo : Nat → Obj → Prop) (I : β → World → Prop) : Prop :=
  ∀ s X Y row, I s X → X.grownBy Y row → (∀ r, row = some r → ∃ o : Obj, X.heap[r]? = some o ∧ ((B ≤ r ∧ o.isCells = false) ∨ (o.isCells = true ∧ Lo r o))) → I s Y
section
variable {β : Type} {B B' : Nat} {Lo : Nat → Obj → Prop} {I I' : β → World → Prop}
theorem OwnT.own (h : OwnT B Lo I) : OwnFrom B I :=
  fun s X Y row hs hg hr => h s X Y row hs hg (fun r e => by obtain ⟨a, o, b, c⟩ := hr r e; exact ⟨o, b, .inl ⟨a, c⟩⟩)
theorem OwnT.mono (h : OwnT B Lo I) (hB : B ≤ B') : OwnT B' Lo I :=
  fun s X Y row hs hg hr => h s X Y row hs hg (fun r e => by
    obtain ⟨o, b, ⟨c, d⟩ | c⟩ := hr r e
    · exact ⟨o, b, .inl ⟨by omega, d⟩⟩
    · exact ⟨o, b, .inr c⟩)
theorem OwnT.and (h : OwnT B Lo I) (k : OwnT B Lo I') : OwnT B Lo (fun s W => I s W ∧ I' s W) :=
  fun s X Y row hs hg hr => ⟨h s X Y row hs.1 hg hr, k s X Y row hs.2 hg hr⟩
theorem OwnT.shift {α : Type} {J : List α → World → Prop} (h : OwnT B Lo J) (pre : List α) : OwnT B Lo (fun ys => J (pre ++ ys)) :=
  fun s X Y row hs hg hr => h (pre ++ s) X Y row hs hg hr
theorem OwnT.alloc (h : OwnT B Lo I) {s : β} {W : World} (o : Obj) (hs : I s W) : I s (W.alloc o) := h.own.alloc o hs
/-- One cell stored. -/
theorem OwnT.set (h : OwnT B Lo I) {s : β} {W : World} {b : Nat} (u : Value) (hs : I s W) {o : Obj} (hp : W.heap[b]? = some o) (hc : o.isCells = true) (hl : Lo b o) : I s (W.setCell ⟨b, 0, none⟩ u) :=
  h s W _ (some b) hs (grownBy_setCell' W b u) (fun r e => by cases e; exact ⟨o, hp, .inr ⟨hc, hl⟩⟩)
end
theorem OwnFrom.toT {β : Type} {B : Nat} {I : β → World → Prop} (h : OwnFrom B I) : OwnT B (fun _ _ => False) I :=
  fun s X Y row hs hg hr => h s X Y row hs hg (fun r e => by
    obtain ⟨o, b, ⟨c, d⟩ | ⟨_, c⟩⟩ := hr r e
    · exact ⟨c, o, b, d⟩
    · exact c.elim)
/-- Cells of the types that are not in Us hold what they held. -/
def KeepT (Us : List Nat) (W W' : World) : Prop := W.heap.size ≤ W'.heap.size ∧ ∀ (g : Nat) cs t fr, W.heap[g]? = some (.cells cs t fr) → t ∉ Us → W'.heap[g]? = W.heap[g]?
theorem KeepT.trans {Us : List Nat} {A B C : World} (h : KeepT Us A B) (k : KeepT Us B C) : KeepT Us A C :=
  ⟨Nat.le_trans h.1 k.1, fun g cs t fr hg ht => (k.2 g cs t fr ((h.2 g cs t fr hg ht).trans hg) ht).trans (h.2 g cs t fr hg ht)⟩
/-- The contract of an iterator that hands on xs, and may write loose cells meanwhile. -/
def SeqT {α : Type} (F : Fence) (n : Nat) (P : Program) (Lo : Nat → Obj → Prop) (g : Nat) (lb : Array Value) (encs : α → Array Value) (Kp : World → World → Prop) (xs : List α) (w : World) : Prop :=
  ∀ (l : Nat) (J Jx : List α → World → Prop) (W : World), Below w.heap.size w W → w.heap.size + 2 ≤ W.heap.size → OwnT W.heap.size Lo J → OwnT W.heap.size Lo Jx →
    (∀ pre x W1, J pre W1 → pre ++ [x] <+: xs → YieldAt F (n - 1) P l (encs x) W1 fun e W' =>
      (e = .returned (.bool true) ∧ J (pre ++ [x]) W' ∧ Kp W1 W') ∨ (e = .returned (.bool false) ∧ Jx (pre ++ [x]) W' ∧ Kp W1 W')) →
    J [] W →
    CallsIn F n P g (#[.func (.yield l) #[] #[]] ++ lb) W fun e W' => (∃ v, e = .returned v) ∧ (J xs W' ∨ ∃ pre, pre <+: xs ∧ Jx pre W')

/-- An iterator that changes nothing but walks' objects is one of these. -/
theorem SeqP.toT {α : Type} {F : Fence} {n : Nat} {P : Program} {g : Nat} {lb : Array Value} {encs : α → Array Value} {Kp : World → World → Prop} {xs : List α} {w : World} (Lo : Nat → Obj → Prop) (h : SeqP F n P g lb encs Kp xs w) : SeqT F n P Lo g lb encs Kp xs w :=
  fun l J Jx W hW _ hJ hJx hY h0 => h l J Jx W hW (fun s X Y row hs hg hr => hJ s X Y row hs hg (fun r e => by obtain ⟨a, o, b, c⟩ := hr r e; exact ⟨o, b, .inl ⟨a, Obj.not_cells_of_walk c⟩⟩))
    (fun s X Y row hs hg hr => hJx s X Y row hs hg (fun r e => by obtain ⟨a, o, b, c⟩ := hr r e; exact ⟨o, b, .inl ⟨a, Obj.not_cells_of_walk c⟩⟩)) (fun pre x W1 hj hp => YieldAt.mono (hY pre x W1 hj hp) fun e W' hw => hw.imp id (fun ⟨a, b, _⟩ => ⟨a, b⟩)) h0
section
variable {F : Fence} {n : Nat} {P : Program} {w : World}
/-- The loop's two blocks: its record (in the state st, with the jump pe), and its list of deferred calls, which is empty. -/
structure Books (B : Nat) (rc : LoopState → Option Code → Loop) (st : LoopState) (pe : Option Code) (W : World) : Prop where
  rcd : W.heap[B + 1]? = some (.loop (rc st pe))
  dfs : W.heap[B]? = some (.deferred (some []))
theorem Books.lt {B : Nat} {rc : LoopState → Option Code → Loop} {st : LoopState} {pe : Option Code} {W : World} (h : Books B rc st pe W) : B + 1 < W.heap.size := (Array.getElem?_eq_some_iff.1 h.rcd).1
theorem Books.grown {B : Nat} {rc : LoopState → Option Code → Loop} {st : LoopState} {pe : Option Code} {X Y : World} {row : Option Nat} (h : Books B rc st pe X) (hg : X.grownBy Y row) (hr : ∀ r, row = some r → B + 2 ≤ r ∨ ∃ o : Obj, X.heap[r]? = some o ∧ o.isCells = true) : Books B rc st pe Y := by
  have := h.lt
  refine ⟨(hg.block _ (by omega) (fun e => ?_)).trans h.rcd, (hg.block _ (by omega) (fun e => ?_)).trans h.dfs⟩
  · rcases hr _ e.symm with h1 | ⟨o, h1, h2⟩
    · omega
    · rw [h.rcd] at h1; cases h1; cases h2
  · rcases hr _ e.symm with h1 | ⟨o, h1, h2⟩
    · omega
    · rw [h.dfs] at h1; cases h1; cases h2
theorem Books.from {B : Nat} {rc : LoopState → Option Code → Loop} {st : LoopState} {pe : Option Code} {X Y : World} (h : Books B rc st pe X) (k : KeepsFrom B X Y) : Books B rc st pe Y :=
  ⟨k.same _ _ (by omega) h.rcd rfl, k.same _ _ (Nat.le_refl _) h.dfs rfl⟩
theorem Books.turn {B : Nat} {rc : LoopState → Option Code → Loop} {st : LoopState} {pe : Option Code} {W : World} (h : Books B rc st pe W) (st' : LoopState) (pe' : Option Code) : Books B rc st' pe' (W.putObj (B + 1) (.loop (rc st' pe'))) :=
  ⟨World.putObj_heap_same h.lt, (World.putObj_heap_other (by omega)).trans h.dfs⟩

/-- How a body may be left, and what it keeps. -/
def ownPostT {α : Type} (B : Nat) (Kp : World → World → Prop) (I : List α → World → Prop) (Ix : Code → List α → World → Prop) (xs : List α) (W : World) : Exit → Act → World → Prop
  | .normal, _, W' => KeepsFrom B W W' ∧ Kp W W' ∧ I xs W'
  | .ret, _, W' => KeepsFrom B W W' ∧ Kp W W' ∧ Ix .ret xs W'
  | .exit id, _, W' => KeepsFrom B W W' ∧ Kp W W' ∧ Ix (.exit id) xs W'
  | .goto t, _, W' => KeepsFrom B W W' ∧ Kp W W' ∧ Ix (.goto t) xs W'
  | .panic _, _, _ => False
  | .outgrown, _, _ => False
/-- A range over such an iterator, where the loop variables lie in no box; the body is told where the loop's record lies. -/
theorem wpIn_rangeTL {α : Type} {Lo : Nat → Obj → Prop} {g : Operand} {ps : Array Tmp} {assign body : Code} {Q : Exit → Act → World → Prop} {a : Act}
    (hro : F.round = none) (h1 : 1 ≤ n) {gf : Nat} {lb : Array Value} (hg : a.eval g = .func (.func gf) #[] lb) (hFg : F.fn gf) (eg : ∀ args w, (callFunc gf args).run P w = .ok (.enter gf args) w)
    {encs : α → Array Value} {Kp : World → World → Prop} {xs : List α} {w0 : World} (hseq : SeqT F (n - 1) P Lo gf lb encs Kp xs w0)
    (hKt : ∀ {A B C : World}, Kp A B → Kp B C → Kp A C) (hKb : ∀ (W : World) (o o' : Obj), W.heap[w.heap.size + 1]? = some o → o.isCells = false → Kp W (W.putObj (w.heap.size + 1) o'))
    (hb0 : Below w0.heap.size w0 w) (hps : ∀ x, (encs x).size = ps.size)
    (I : List α → World → Prop) (Ix : Code → List α → World → Prop) (hI : OwnT w.heap.size Lo I) (hIx : ∀ c, OwnT w.heap.size Lo (Ix c)) (h0 : I [] w) (a₁ : α → Act)
    (hassign : ∀ (l : Nat) (x : α) (W : World) (K : Act → World → Prop), K (a₁ x) W →
      assign.wpIn (F.inRound l) (n - 1 - 1) P (Exit.then K (fun _ _ _ => False)) { tmps := (ps.zip (encs x)).foldl (fun t (p, v) => t.setIfInBounds p v) a.tmps, defers := [] } W)
    (hbody : ∀ (l : Nat) (pre : List α) (x : α) (W : World), l = w.heap.size + 1 → (∃ r, W.heap[l]? = some (.loop r)) → I pre W → pre ++ [x] <+: xs → body.wpIn (F.inRound l) (n - 1 - 1) P (ownPostT w.heap.size Kp I Ix (pre ++ [x]) W) (a₁ x) W)
    (hdone : ∀ (D : Nat) (W : World), w.heap.size ≤ D → I xs W → W.heap[D]? = some (.deferred (some [])) → Q .normal { a with defers := { target := .collected D, args := #[] } :: a.defers } W)
    (hstop : ∀ (D : Nat) (c : Code) (pre : List α) (W : World), w.heap.size ≤ D → pre <+: xs → Ix c pre W → W.heap[D]? = some (.deferred (some [])) → c.wpIn F n P Q { a with defers := { target := .collected D, args := #[] } :: a.defers } W) :
    (Code.rangeFunc g ps assign body).wpIn F n P Q a w := by
  refine wpIn_rangeFunc fun fn hfn => ?_
  rw [hro]
  obtain ⟨rc, hrc⟩ : ∃ rc : LoopState → Option Code → Loop, rc = fun st pe => { state := st, pending := pe, fn, tmps := a.tmps, params := ps, assign, body, defers := w.heap.size } := ⟨_, rfl⟩
  have hent := run_enterLoop_outer (P := P) (w := w) fn a.tmps ps assign body
  obtain ⟨V, hV⟩ : ∃ V, V = (w.alloc (.deferred (some []))).alloc (.loop (rc .ready none)) := ⟨_, rfl⟩
  have hVs : V.heap.size = w.heap.size + 2 := by rw [hV]; simp
  have hbk : Books w.heap.size rc .ready none V := by
    constructor
    · have := World.alloc_heap_new (w.alloc (.deferred (some []))) (.loop (rc .ready none))
      rw [hV]
      rwa [World.size_alloc] at this
    · rw [hV]
      exact (Below.heap_alloc _ _ _ (by simp)).trans (World.alloc_heap_new w _)
  have hVI : I [] V := by rw [hV]; exact hI.own.alloc _ (hI.own.alloc _ h0)
  have hVb : Below w0.heap.size w0 V := by
    rw [hV]
    exact hb0.trans ((((Below.refl _ w).alloc (Nat.le_refl _) _).alloc (by simp) _).mono hb0.size)
  have hVe : (Instr.enterLoop fn a.tmps ps assign body none).run P w = .ok (w.heap.size + 1, [{ target := .collected w.heap.size, args := #[] }]) V := by rw [hV, hrc]; exact hent
  clear hent hV
  refine ⟨_, _, V, { target := .fn (.func gf) lb, args := #[.func (.yield (w.heap.size + 1)) #[] #[]] }, V, gf, #[.func (.yield (w.heap.size + 1)) #[] #[]] ++ lb, V, hVe, by simp only [resolve, hg]; simp [go_sem], fun f' hf' => by simp [Target.leads] at hf'; subst hf'; exact hFg, by simp [invoke, go_sem, eg], fun _ => h1, ?_⟩
  have hge : ∀ {X : World} {row : Option Nat}, (∀ r, row = some r → ∃ o : Obj, X.heap[r]? = some o ∧ ((V.heap.size ≤ r ∧ o.isCells = false) ∨ (o.isCells = true ∧ Lo r o))) → (∀ r, row = some r → ∃ o : Obj, X.heap[r]? = some o ∧ ((w.heap.size ≤ r ∧ o.isCells = false) ∨ (o.isCells = true ∧ Lo r o))) := fun hr r e => by
    obtain ⟨o, b, ⟨c, d⟩ | c⟩ := hr r e
    · exact ⟨o, b, .inl ⟨by omega, d⟩⟩
    · exact ⟨o, b, .inr c⟩
  have hgb : ∀ {X : World} {row : Option Nat}, (∀ r, row = some r → ∃ o : Obj, X.heap[r]? = some o ∧ ((V.heap.size ≤ r ∧ o.isCells = false) ∨ (o.isCells = true ∧ Lo r o))) → (∀ r, row = some r → w.heap.size + 2 ≤ r ∨ ∃ o : Obj, X.heap[r]? = some o ∧ o.isCells = true) := fun hr r e => by
    obtain ⟨o, b, ⟨c, d⟩ | c⟩ := hr r e
    · exact .inl (by omega)
    · exact .inr ⟨o, b, c.1⟩
  refine (hseq (w.heap.size + 1) (fun pre W => I pre W ∧ Books w.heap.size rc .ready none W) (fun pre W => ∃ c, Ix c pre W ∧ Books w.heap.size rc .done (some c) W) V hVb (by have := hb0.size; omega) ?_ ?_ ?_ ⟨hVI, hbk⟩).mono ?_
  · intro s X Y row hs hg' hr
    exact ⟨hI s X Y row hs.1 hg' (hge hr), hs.2.grown hg' (hgb hr)⟩
  · rintro s X Y row ⟨c, hc, hb⟩ hg' hr
    exact ⟨c, hIx c s X Y row hc hg' (hge hr), hb.grown hg' (hgb hr)⟩
  · -- one round
    rintro pre x W ⟨hi, hb⟩ hpre
    have hyld := run_yield (P := P) (args := encs x) hb.rcd (by rw [hrc]; exact hps x)
    rw [hrc] at hyld
    refine ⟨fn, _, assign, body, hyld, roundIn_of_wpIn hfn (hassign _ x W _ ?_)⟩
    clear hyld
    have hbusy : (rc .ready none).state = .ready := by rw [hrc]
    refine ⟨_, run_beginRound hb.rcd hbusy, ?_⟩
    have heq : ({ rc .ready none with state := .busy } : Loop) = rc .busy none := by rw [hrc]
    rw [heq]
    have hb2 := hb.turn .busy none
    refine wpIn_mono (hbody _ pre x _ rfl ⟨_, hb2.rcd⟩ (hI.own.putObj _ hi (by omega) hb.rcd rfl) hpre) ?_
    have hk0 : Kp W (W.putObj (w.heap.size + 1) (.loop (rc .busy none))) := hKb _ _ _ hb.rcd rfl
    have fin : ∀ (jump : Option Code) (W3 : World), Books w.heap.size rc .busy none W3 → (Instr.endRound (w.heap.size + 1) jump).run P W3 = .ok (.bool jump.isNone) (W3.putObj (w.heap.size + 1) (.loop (rc (if jump.isNone then .ready else .done) jump))) := fun jump W3 hb3 => by
      have := run_endRound (P := P) jump hb3.rcd
      rw [hrc] at this ⊢
      exact this
    rintro e a3 W3 hp
    cases e with
    | normal =>
      obtain ⟨hk3, hkp3, hi3⟩ := hp
      have hb3 := hb2.from hk3
      exact ⟨_, _, fin none W3 hb3, .inl ⟨rfl, ⟨hI.own.putObj _ hi3 (by omega) hb3.rcd rfl, hb3.turn .ready none⟩, hKt hk0 (hKt hkp3 (hKb _ _ _ hb3.rcd rfl))⟩⟩
    | ret =>
      obtain ⟨hk3, hkp3, hi3⟩ := hp
      have hb3 := hb2.from hk3
      exact ⟨_, _, fin (some .ret) W3 hb3, .inr ⟨rfl, ⟨.ret, (hIx _).own.putObj _ hi3 (by omega) hb3.rcd rfl, hb3.turn .done (some .ret)⟩, hKt hk0 (hKt hkp3 (hKb _ _ _ hb3.rcd rfl))⟩⟩
    | exit id =>
      obtain ⟨hk3, hkp3, hi3⟩ := hp
      have hb3 := hb2.from hk3
      exact ⟨_, _, fin (some (.exit id)) W3 hb3, .inr ⟨rfl, ⟨.exit id, (hIx _).own.putObj _ hi3 (by omega) hb3.rcd rfl, hb3.turn .done (some (.exit id))⟩, hKt hk0 (hKt hkp3 (hKb _ _ _ hb3.rcd rfl))⟩⟩
    | goto t =>
      obtain ⟨hk3, hkp3, hi3⟩ := hp
      have hb3 := hb2.from hk3
      exact ⟨_, _, fin (some (.goto t)) W3 hb3, .inr ⟨rfl, ⟨.goto t, (hIx _).own.putObj _ hi3 (by omega) hb3.rcd rfl, hb3.turn .done (some (.goto t))⟩, hKt hk0 (hKt hkp3 (hKb _ _ _ hb3.rcd rfl))⟩⟩
    | panic ch => exact hp.elim
    | outgrown => exact hp.elim
  · -- behind the iterator
    have fin2 : ∀ (st : LoopState) (pe : Option Code) (W2 : World), st ≠ .busy → Books w.heap.size rc st pe W2 → (Instr.endLoop (w.heap.size + 1)).run P W2 = .ok pe (W2.putObj (w.heap.size + 1) (.loop (rc .exhausted pe))) := fun st pe W2 hst hb2 => by
      have := run_endLoop (P := P) hb2.rcd (by rw [hrc]; exact hst)
      rw [hrc] at this ⊢
      exact this
    rintro e W2 ⟨⟨v, rfl⟩, (⟨hi, hb⟩ | ⟨pre, hpre, c, hi, hb⟩)⟩
    · exact ⟨none, _, fin2 _ _ _ (by simp) hb, hdone _ _ (Nat.le_refl _) (hI.own.putObj _ hi (by omega) hb.rcd rfl) ((World.putObj_heap_other (by omega)).trans hb.dfs)⟩
    · exact ⟨some c, _, fin2 _ _ _ (by simp) hb, hstop _ c pre _ (Nat.le_refl _) hpre ((hIx c).own.putObj _ hi (by omega) hb.rcd rfl) ((World.putObj_heap_other (by omega)).trans hb.dfs)⟩
/-- A range over such an iterator, where the loop variables lie in no box. -/
theorem wpIn_rangeT {α : Type} {Lo : Nat → Obj → Prop} {g : Operand} {ps : Array Tmp} {assign body : Code} {Q : Exit → Act → World → Prop} {a : Act}
    (hro : F.round = none) (h1 : 1 ≤ n) {gf : Nat} {lb : Array Value} (hg : a.eval g = .func (.func gf) #[] lb) (hFg : F.fn gf) (eg : ∀ args w, (callFunc gf args).run P w = .ok (.enter gf args) w)
    {encs : α → Array Value} {Kp : World → World → Prop} {xs : List α} {w0 : World} (hseq : SeqT F (n - 1) P Lo gf lb encs Kp xs w0)
    (hKt : ∀ {A B C : World}, Kp A B → Kp B C → Kp A C) (hKb : ∀ (W : World) (o o' : Obj), W.heap[w.heap.size + 1]? = some o → o.isCells = false → Kp W (W.putObj (w.heap.size + 1) o'))
    (hb0 : Below w0.heap.size w0 w) (hps : ∀ x, (encs x).size = ps.size)
    (I : List α → World → Prop) (Ix : Code → List α → World → Prop) (hI : OwnT w.heap.size Lo I) (hIx : ∀ c, OwnT w.heap.size Lo (Ix c)) (h0 : I [] w) (a₁ : α → Act)
    (hassign : ∀ (l : Nat) (x : α) (W : World) (K : Act → World → Prop), K (a₁ x) W →
      assign.wpIn (F.inRound l) (n - 1 - 1) P (Exit.then K (fun _ _ _ => False)) { tmps := (ps.zip (encs x)).foldl (fun t (p, v) => t.setIfInBounds p v) a.tmps, defers := [] } W)
    (hbody : ∀ (l : Nat) (pre : List α) (x : α) (W : World), I pre W → pre ++ [x] <+: xs → body.wpIn (F.inRound l) (n - 1 - 1) P (ownPostT w.heap.size Kp I Ix (pre ++ [x]) W) (a₁ x) W)
    (hdone : ∀ (D : Nat) (W : World), w.heap.size ≤ D → I xs W → W.heap[D]? = some (.deferred (some [])) → Q .normal { a with defers := { target := .collected D, args := #[] } :: a.defers } W)
    (hstop : ∀ (D : Nat) (c : Code) (pre : List α) (W : World), w.heap.size ≤ D → pre <+: xs → Ix c pre W → W.heap[D]? = some (.deferred (some [])) → c.wpIn F n P Q { a with defers := { target := .collected D, args := #[] } :: a.defers } W) :
    (Code.rangeFunc g ps assign body).wpIn F n P Q a w :=
  wpIn_rangeTL hro h1 hg hFg eg hseq hKt hKb hb0 hps I Ix hI hIx h0 a₁ hassign (fun l pre x W _ _ => hbody l pre x W) hdone hstop
end
end Go.Proofs.YteflgdnekflbbaaDoor

namespace Go.Proofs.YteflgdnekflbbaaDoor
open Go.RowKit
section
variable {F : Fence} {n : Nat} {P : Program} {w : World}
/-- A range over such an iterator, where the loop variables may lie in boxes that each round makes. -/
theorem wpIn_rangeB {α : Type} {Lo : Nat → Obj → Prop} {g : Operand} {ps : Array Tmp} {assign body : Code} {Q : Exit → Act → World → Prop} {a : Act}
    (hro : F.round = none) (h1 : 1 ≤ n) {gf : Nat} {lb : Array Value} (hg : a.eval g = .func (.func gf) #[] lb) (hFg : F.fn gf) (eg : ∀ args w, (callFunc gf args).run P w = .ok (.enter gf args) w)
    {encs : α → Array Value} {Kp : World → World → Prop} {xs : List α} {w0 : World} (hseq : SeqT F (n - 1) P Lo gf lb encs Kp xs w0)
    (hKt : ∀ {A B C : World}, Kp A B → Kp B C → Kp A C) (hKb : ∀ (W : World) (o o' : Obj), W.heap[w.heap.size + 1]? = some o → o.isCells = false → Kp W (W.putObj (w.heap.size + 1) o'))
    (hb0 : Below w0.heap.size w0 w) (hps : ∀ x, (encs x).size = ps.size)
    (I : List α → World → Prop) (Ix : Code → List α → World → Prop) (hI : OwnT w.heap.size Lo I) (hIx : ∀ c, OwnT w.heap.size Lo (Ix c)) (h0 : I [] w) (PA : α → Act → World → Prop) (hPA : ∀ x a1, OwnFrom w.heap.size (fun (_ : Unit) W => PA x a1 W)) (hKa : ∀ W W2, w.heap.size + 2 ≤ W.heap.size → Keep [] W W2 → Kp W W2)
    (hassign : ∀ (l : Nat) (x : α) (W : World) (K : Act → World → Prop), w.heap.size + 2 ≤ W.heap.size → (∀ a1 W2, Keep [] W W2 → PA x a1 W2 → K a1 W2) →
      assign.wpIn (F.inRound l) (n - 1 - 1) P (Exit.then K (fun _ _ _ => False)) { tmps := (ps.zip (encs x)).foldl (fun t (p, v) => t.setIfInBounds p v) a.tmps, defers := [] } W)
    (hbody : ∀ (l : Nat) (pre : List α) (x : α) (a1 : Act) (W : World), w.heap.size + 2 ≤ W.heap.size → I pre W → PA x a1 W → pre ++ [x] <+: xs → body.wpIn (F.inRound l) (n - 1 - 1) P (ownPostT w.heap.size Kp I Ix (pre ++ [x]) W) a1 W)
    (hdone : ∀ (D : Nat) (W : World), w.heap.size ≤ D → I xs W → W.heap[D]? = some (.deferred (some [])) → Q .normal { a with defers := { target := .collected D, args := #[] } :: a.defers } W)
    (hstop : ∀ (D : Nat) (c : Code) (pre : List α) (W : World), w.heap.size ≤ D → pre <+: xs → Ix c pre W → W.heap[D]? = some (.deferred (some [])) → c.wpIn F n P Q { a with defers := { target := .collected D, args := #[] } :: a.defers } W) :
    (Code.rangeFunc g ps assign body).wpIn F n P Q a w := by
  refine wpIn_rangeFunc fun fn hfn => ?_
  rw [hro]
  obtain ⟨rc, hrc⟩ : ∃ rc : LoopState → Option Code → Loop, rc = fun st pe => { state := st, pending := pe, fn, tmps := a.tmps, params := ps, assign, body, defers := w.heap.size } := ⟨_, rfl⟩
  have hent := run_enterLoop_outer (P := P) (w := w) fn a.tmps ps assign body
  obtain ⟨V, hV⟩ : ∃ V, V = (w.alloc (.deferred (some []))).alloc (.loop (rc .ready none)) := ⟨_, rfl⟩
  have hVs : V.heap.size = w.heap.size + 2 := by rw [hV]; simp
  have hbk : Books w.heap.size rc .ready none V := by
    constructor
    · have := World.alloc_heap_new (w.alloc (.deferred (some []))) (.loop (rc .ready none))
      rw [hV]
      rwa [World.size_alloc] at this
    · rw [hV]
      exact (Below.heap_alloc _ _ _ (by simp)).trans (World.alloc_heap_new w _)
  have hVI : I [] V := by rw [hV]; exact hI.own.alloc _ (hI.own.alloc _ h0)
  have hVb : Below w0.heap.size w0 V := by
    rw [hV]
    exact hb0.trans ((((Below.refl _ w).alloc (Nat.le_refl _) _).alloc (by simp) _).mono hb0.size)
  have hVe : (Instr.enterLoop fn a.tmps ps assign body none).run P w = .ok (w.heap.size + 1, [{ target := .collected w.heap.size, args := #[] }]) V := by rw [hV, hrc]; exact hent
  clear hent hV
  refine ⟨_, _, V, { target := .fn (.func gf) lb, args := #[.func (.yield (w.heap.size + 1)) #[] #[]] }, V, gf, #[.func (.yield (w.heap.size + 1)) #[] #[]] ++ lb, V, hVe, by simp only [resolve, hg]; simp [go_sem], fun f' hf' => by simp [Target.leads] at hf'; subst hf'; exact hFg, by simp [invoke, go_sem, eg], fun _ => h1, ?_⟩
  have hge : ∀ {X : World} {row : Option Nat}, (∀ r, row = some r → ∃ o : Obj, X.heap[r]? = some o ∧ ((V.heap.size ≤ r ∧ o.isCells = false) ∨ (o.isCells = true ∧ Lo r o))) → (∀ r, row = some r → ∃ o : Obj, X.heap[r]? = some o ∧ ((w.heap.size ≤ r ∧ o.isCells = false) ∨ (o.isCells = true ∧ Lo r o))) := fun hr r e => by
    obtain ⟨o, b, ⟨c, d⟩ | c⟩ := hr r e
    · exact ⟨o, b, .inl ⟨by omega, d⟩⟩
    · exact ⟨o, b, .inr c⟩
  have hgb : ∀ {X : World} {row : Option Nat}, (∀ r, row = some r → ∃ o : Obj, X.heap[r]? = some o ∧ ((V.heap.size ≤ r ∧ o.isCells = false) ∨ (o.isCells = true ∧ Lo r o))) → (∀ r, row = some r → w.heap.size + 2 ≤ r ∨ ∃ o : Obj, X.heap[r]? = some o ∧ o.isCells = true) := fun hr r e => by
    obtain ⟨o, b, ⟨c, d⟩ | c⟩ := hr r e
    · exact .inl (by omega)
    · exact .inr ⟨o, b, c.1⟩
  refine (hseq (w.heap.size + 1) (fun pre W => I pre W ∧ Books w.heap.size rc .ready none W) (fun pre W => ∃ c, Ix c pre W ∧ Books w.heap.size rc .done (some c) W) V hVb (by have := hb0.size; omega) ?_ ?_ ?_ ⟨hVI, hbk⟩).mono ?_
  · intro s X Y row hs hg' hr
    exact ⟨hI s X Y row hs.1 hg' (hge hr), hs.2.grown hg' (hgb hr)⟩
  · rintro s X Y row ⟨c, hc, hb⟩ hg' hr
    exact ⟨c, hIx c s X Y row hc hg' (hge hr), hb.grown hg' (hgb hr)⟩
  · -- one round
    rintro pre x W0 ⟨hi0, hb0'⟩ hpre
    have hyld := run_yield (P := P) (args := encs x) hb0'.rcd (by rw [hrc]; exact hps x)
    rw [hrc] at hyld
    refine ⟨fn, _, assign, body, hyld, roundIn_of_wpIn hfn (hassign _ x W0 _ (by have := hb0'.lt; omega) (fun a1 W kA pA => ?_))⟩
    clear hyld
    have hi := hI pre W0 W none hi0 ⟨kA.os, kA.tape, kA.output, kA.size, fun i hi _ => kA.block i hi (by simp)⟩ (fun r e => by cases e)
    have hb := hb0'.grown (row := none) ⟨kA.os, kA.tape, kA.output, kA.size, fun i hi _ => kA.block i hi (by simp)⟩ (fun r e => by cases e)
    have hkA := hKa W0 W (by have := hb0'.lt; omega) kA
    have hbz : w.heap.size + 2 ≤ W.heap.size := by have := hb.lt; omega
    have hbusy : (rc .ready none).state = .ready := by rw [hrc]
    refine ⟨_, run_beginRound hb.rcd hbusy, ?_⟩
    have heq : ({ rc .ready none with state := .busy } : Loop) = rc .busy none := by rw [hrc]
    rw [heq]
    have hb2 := hb.turn .busy none
    refine wpIn_mono (hbody _ pre x a1 _ (by simpa using hbz) (hI.own.putObj _ hi (by omega) hb.rcd rfl) ((hPA x a1).putObj (s := ()) _ pA (by omega) hb.rcd rfl) hpre) ?_
    have hk0 : Kp W0 (W.putObj (w.heap.size + 1) (.loop (rc .busy none))) := hKt hkA (hKb _ _ _ hb.rcd rfl)
    have fin : ∀ (jump : Option Code) (W3 : World), Books w.heap.size rc .busy none W3 → (Instr.endRound (w.heap.size + 1) jump).run P W3 = .ok (.bool jump.isNone) (W3.putObj (w.heap.size + 1) (.loop (rc (if jump.isNone then .ready else .done) jump))) := fun jump W3 hb3 => by
      have := run_endRound (P := P) jump hb3.rcd
      rw [hrc] at this ⊢
      exact this
    rintro e a3 W3 hp
    cases e with
    | normal =>
      obtain ⟨hk3, hkp3, hi3⟩ := hp
      have hb3 := hb2.from hk3
      exact ⟨_, _, fin none W3 hb3, .inl ⟨rfl, ⟨hI.own.putObj _ hi3 (by omega) hb3.rcd rfl, hb3.turn .ready none⟩, hKt hk0 (hKt hkp3 (hKb _ _ _ hb3.rcd rfl))⟩⟩
    | ret =>
      obtain ⟨hk3, hkp3, hi3⟩ := hp
      have hb3 := hb2.from hk3
      exact ⟨_, _, fin (some .ret) W3 hb3, .inr ⟨rfl, ⟨.ret, (hIx _).own.putObj _ hi3 (by omega) hb3.rcd rfl, hb3.turn .done (some .ret)⟩, hKt hk0 (hKt hkp3 (hKb _ _ _ hb3.rcd rfl))⟩⟩
    | exit id =>
      obtain ⟨hk3, hkp3, hi3⟩ := hp
      have hb3 := hb2.from hk3
      exact ⟨_, _, fin (some (.exit id)) W3 hb3, .inr ⟨rfl, ⟨.exit id, (hIx _).own.putObj _ hi3 (by omega) hb3.rcd rfl, hb3.turn .done (some (.exit id))⟩, hKt hk0 (hKt hkp3 (hKb _ _ _ hb3.rcd rfl))⟩⟩
    | goto t =>
      obtain ⟨hk3, hkp3, hi3⟩ := hp
      have hb3 := hb2.from hk3
      exact ⟨_, _, fin (some (.goto t)) W3 hb3, .inr ⟨rfl, ⟨.goto t, (hIx _).own.putObj _ hi3 (by omega) hb3.rcd rfl, hb3.turn .done (some (.goto t))⟩, hKt hk0 (hKt hkp3 (hKb _ _ _ hb3.rcd rfl))⟩⟩
    | panic ch => exact hp.elim
    | outgrown => exact hp.elim
  · -- behind the iterator
    have fin2 : ∀ (st : LoopState) (pe : Option Code) (W2 : World), st ≠ .busy → Books w.heap.size rc st pe W2 → (Instr.endLoop (w.heap.size + 1)).run P W2 = .ok pe (W2.putObj (w.heap.size + 1) (.loop (rc .exhausted pe))) := fun st pe W2 hst hb2 => by
      have := run_endLoop (P := P) hb2.rcd (by rw [hrc]; exact hst)
      rw [hrc] at this ⊢
      exact this
    rintro e W2 ⟨⟨v, rfl⟩, (⟨hi, hb⟩ | ⟨pre, hpre, c, hi, hb⟩)⟩
    · exact ⟨none, _, fin2 _ _ _ (by simp) hb, hdone _ _ (Nat.le_refl _) (hI.own.putObj _ hi (by omega) hb.rcd rfl) ((World.putObj_heap_other (by omega)).trans hb.dfs)⟩
    · exact ⟨some c, _, fin2 _ _ _ (by simp) hb, hstop _ c pre _ (Nat.le_refl _) hpre ((hIx c).own.putObj _ hi (by omega) hb.rcd rfl) ((World.putObj_heap_other (by omega)).trans hb.dfs)⟩
end
end Go.Proofs.YteflgdnekflbbaaDoor

namespace Go.Proofs.YteflgdnekflbbaaDoor
open Go.RowKit

section
variable {F : Fence} {n : Nat} {P : Program} {ops : Array Oper} {Q : Exit → Act → World → Prop} {md : Region.Mode} {S : World → Prop}
/-- Whatever order is drawn from here on; S holds behind each operation. -/
def wpAnyI (F : Fence) (n : Nat) (P : Program) (md : Region.Mode) (ops : Array Oper) (Q : Exit → Act → World → Prop) (S : World → Prop) : Nat → Array Bool → Act → World → Prop
  | 0, listed, a, w => Region.ready md ops listed = [] ∧ Q .normal a w
  | fuel + 1, listed, a, w =>
    (Region.ready md ops listed = [] → Q .normal a w) ∧
    ∀ i ∈ Region.ready md ops listed, wpOpIn F n P ops Q i (fun a' w' => S w' ∧ wpAnyI F n P md ops Q S fuel (listed.setIfInBounds i true) a' w') a w
theorem wpAnyI.any : ∀ (fuel : Nat) (listed : Array Bool) (a : Act) (w : World), wpAnyI F n P md ops Q S fuel listed a w → wpAnyIn F n P md ops Q fuel listed a w
  | 0, _, _, _, h => h
  | fuel + 1, _, _, _, h => ⟨h.1, fun i hi => wpOpIn_mono (fun a' w' h' => wpAnyI.any fuel _ a' w' h'.2) (h.2 i hi)⟩
/-- No operation defers. -/
def NoDef (ops : Array Oper) : Prop := ∀ (i : Nat) (o : Oper) (c : Call), ops[i]? = some o → o.op ≠ .defer c

theorem yieldsI {i : Nat} {o : Oper} {v : Value} {a : Act} (hF : Open F) (hd : NoDef ops) (hi : ops[i]? = some o) (hy : YieldsIf P ops S o v a) {K : Act → World → Prop} {w : World} (hS : S w) (h : K (a.put o.dst v) w) : wpOpIn F n P ops Q i K a w := by
  unfold wpOpIn
  simp only [hi]
  rcases hy with ⟨hw, hv⟩ | ⟨hw, rfl⟩
  · rw [if_pos hw]
    unfold Oper.wpIn
    refine ⟨fun f _ => hF.fn f, ?_⟩
    rw [Oper.semAt_plain F _ _ (fun c => hd i o c hi), hv w hS]
    exact h
  · rw [if_neg (by rw [hw]; simp)]
    exact ⟨fun f _ => hF.fn f, h⟩

/-- What i yields may be laid ahead of an operation that is apart from it. -/
theorem putI {j : Nat} {oi oj : Oper} {v : Value} (hF : Open F) (hd : NoDef ops) (hj : ops[j]? = some oj) (hap : oi.apart ops oj = true)
    (hsi : ∀ cs b, oi.op ≠ .select cs b) (hsj : ∀ cs b, oj.op ≠ .select cs b) (hQ : ∀ c a w, Q (.panic c) (a.put oi.dst v) w → Q (.panic c) a w) {K : Act → World → Prop} {a : Act} {w : World}
    (hy : YieldsIf P ops S oi v a) (h : wpOpIn F n P ops Q j K (a.put oi.dst v) w) : wpOpIn F n P ops Q j (fun a' w' => YieldsIf P ops S oi v a' ∧ K (a'.put oi.dst v) w') a w := by
  obtain ⟨h1, h2, h3⟩ := Oper.apart_spec hap
  have kp : ∀ (b : Act) u, YieldsIf P ops S oi v b → YieldsIf P ops S oi v (b.put oj.dst u) := fun b u hb => hb.of_same (execOp_put oi hsi b oj.dst u h3) (wanted_put oi b oj.dst u h3)
  have done : ∀ u w', K ((a.put oi.dst v).put oj.dst u) w' → YieldsIf P ops S oi v (a.put oj.dst u) ∧ K ((a.put oj.dst u).put oi.dst v) w' := fun u w' hk => ⟨kp a u hy, by rw [← Act.put_comm a v u h2]; exact hk⟩
  unfold wpOpIn at h ⊢
  simp only [hj] at h ⊢
  rw [wanted_put oj a oi.dst v h1] at h
  by_cases hw : Region.wanted oj (yielded ops a.tmps) = true
  · rw [if_pos hw] at h ⊢
    unfold Oper.wpIn at h ⊢
    refine ⟨fun f _ => hF.fn f, ?_⟩
    have h := h.2
    rw [Oper.semAt_plain F _ _ (fun c => hd j oj c hj)] at h ⊢
    rw [execOp_put oj hsj a oi.dst v h1] at h
    generalize (execOp a.eval oj).run P w = r at h ⊢
    cases r with
    | ok x w' =>
      cases x <;> simp only [Oper.uponIn] at h ⊢
      case value u => exact done u w' h
      case skip => exact done undef w' h
      case defer d =>
        refine ⟨kp _ _ (hy.of_same rfl rfl), ?_⟩
        rw [← Act.put_comm _ v undef h2, ← Act.put_defers]
        exact h
      case enter f args =>
        refine ⟨h.1, CallsIn.mono h.2 fun e w'' he => ?_⟩
        cases e with
        | returned u => exact done u w'' he
        | panicked c => exact hQ _ _ _ he
        | outgrown => exact he
      case row row args => exact ⟨h.1, RowsIn.mono h.2 fun u w'' he => done u w'' he⟩
      case round l f tmps assign body =>
        refine ⟨h.1, RoundIn.mono h.2 fun e w'' he => ?_⟩
        cases e with
        | returned u => exact done u w'' he
        | panicked c => exact hQ _ _ _ he
        | outgrown => exact he
    | halt x w' =>
      cases x <;> simp only [Oper.uponIn] at h ⊢
      case panic u => exact hQ _ _ _ h
  · rw [if_neg hw] at h ⊢
    exact ⟨fun f _ => hF.fn f, done undef w h.2⟩

theorem wpAnyI_first {i : Nat} {oi : Oper} {v : Value} (hF : Open F) (hd : NoDef ops) (hi : ops[i]? = some oi) (hsel : ∀ (j : Nat) (o : Oper) cs b, ops[j]? = some o → o.op ≠ .select cs b)
    (hQ : ∀ c a w, Q (.panic c) (a.put oi.dst v) w → Q (.panic c) a w) :
    ∀ (fuel : Nat) (listed : Array Bool) (a : Act) (w : World),
      (∀ j oj, ops[j]? = some oj → j ≠ i → listed.getD j true = false → (∀ e ∈ oj.after, Region.binds md e = true → e.on ≠ i) → oi.apart ops oj = true) →
      i ∈ Region.ready md ops listed → YieldsIf P ops S oi v a → S w →
      wpAnyI F n P md ops Q S fuel (listed.setIfInBounds i true) (a.put oi.dst v) w → wpAnyI F n P md ops Q S (fuel + 1) listed a w := by
  intro fuel
  induction fuel with
  | zero =>
    intro listed a w _ hr hy hS H
    refine ⟨fun h => (by rw [h] at hr; cases hr), fun j hj => ?_⟩
    by_cases hji : j = i
    · subst hji; exact yieldsI hF hd hi hy hS ⟨hS, H⟩
    · have := ready_mono hj hji
      rw [H.1] at this
      cases this
  | succ fuel ih =>
    intro listed a w hfree hr hy hS H
    refine ⟨fun h => (by rw [h] at hr; cases hr), fun j hj => ?_⟩
    by_cases hji : j = i
    · subst hji; exact yieldsI hF hd hi hy hS ⟨hS, H⟩
    · have hiun := getD_tf (mem_ready.1 hr).1
      obtain ⟨hjun, oj, hoj, hall⟩ := mem_ready.1 hj
      have hnot : ∀ e ∈ oj.after, Region.binds md e = true → e.on ≠ i := fun e he hb heq => by
        have h1 := hall e he hb
        rw [heq, hiun] at h1
        cases h1
      refine wpOpIn_mono (fun a' w' h3 => ⟨h3.2.1, ih (listed.setIfInBounds j true) a' w' (fun k ok hk hki hun hno => hfree k ok hk hki ?_ hno) (ready_mono hr (Ne.symm hji)) h3.1 h3.2.1 ?_⟩)
        (putI hF hd hoj (hfree j oj hoj hji hjun hnot) (fun cs b => hsel i oi cs b hi) (fun cs b => hsel j oj cs b hoj) hQ hy (H.2 j (ready_mono hj hji)))
      · by_cases hjk : j = k
        · subst hjk; exact hjun
        · rw [getD_set_ne true hjk] at hun; exact hun
      · rw [Array.setIfInBounds_comm _ _ hji]
        exact h3.2.2

variable {fuel : Nat} {listed : Array Bool} {a : Act} {w : World}
/-- As Q, and no panic. -/
def noPanic (Q : Exit → Act → World → Prop) : Exit → Act → World → Prop
  | .panic _, _, _ => False
  | e, a, w => Q e a w
theorem noPanic_le {Q : Exit → Act → World → Prop} (e : Exit) (a : Act) (w : World) (h : noPanic Q e a w) : Q e a w := by
  cases e <;> first | exact h | exact h.elim
theorem ai_start {id : Nat} {l : List Oper} (S : World → Prop) (hm : P.follows .mixedOrders = true) (hd : noDefer l = true) (hS : S w.drew)
    (h : NoDef l.toArray → S w.drew → PanOk (noPanic Q) → wpAnyI F n P .any l.toArray (noPanic Q) S l.toArray.size (Array.replicate l.toArray.size false) a w.drew) : (Code.region id l.toArray true).wpIn F n P Q a w :=
  wpIn_mono (wpIn_region_any hm (wpAnyI.any _ _ _ _ (h (noDefer_spec hd) hS (fun _ _ _ _ _ h => h)))) noPanic_le
variable (i : Nat) {dst : Option Tmp} {op : Op} {tyy : TypeId} {pos : String} {after : Array Edge} {gd : Option (Nat × Bool)}
theorem ai_val {v : Value} (hi : ops[i]? = some ⟨dst, op, tyy, pos, after, gd⟩) (hF : Open F) (hd : NoDef ops) (hs : Region.noSelect ops = true) (hf : Region.free md ops listed i = true) (hr : (Region.ready md ops listed).contains i = true)
    (hw : Region.wanted ⟨dst, op, tyy, pos, after, gd⟩ (yielded ops a.tmps) = true) (hQ : PanOk Q) (hy : ∀ w, S w → (execOp a.eval ⟨dst, op, tyy, pos, after, gd⟩).run P w = .ok (.value v) w) (hS : S w)
    (h : wpAnyI F n P md ops Q S fuel (listed.setIfInBounds i true) (a.put dst v) w) : wpAnyI F n P md ops Q S (fuel + 1) listed a w :=
  wpAnyI_first hF hd hi (Region.noSelect_spec hs) (fun c a w => hQ c a _ _ w) fuel listed a w (Region.free_spec hi hf) (by simpa using hr) (.inl ⟨hw, hy⟩) hS h
theorem ai_off (hi : ops[i]? = some ⟨dst, op, tyy, pos, after, gd⟩) (hF : Open F) (hd : NoDef ops) (hs : Region.noSelect ops = true) (hf : Region.free md ops listed i = true) (hr : (Region.ready md ops listed).contains i = true)
    (hw : Region.wanted ⟨dst, op, tyy, pos, after, gd⟩ (yielded ops a.tmps) = false) (hQ : PanOk Q) (hS : S w)
    (h : wpAnyI F n P md ops Q S fuel (listed.setIfInBounds i true) (a.put dst undef) w) : wpAnyI F n P md ops Q S (fuel + 1) listed a w :=
  wpAnyI_first hF hd hi (Region.noSelect_spec hs) (fun c a w => hQ c a _ _ w) fuel listed a w (Region.free_spec hi hf) (by simpa using hr) (.inr ⟨hw, rfl⟩) hS h
theorem ai_agg (ty : TypeId) (x : Operand) (cs : List Value) (hi : ops[i]? = some ⟨dst, op, tyy, pos, after, gd⟩) (hF : Open F) (hd : NoDef ops) (hs : Region.noSelect ops = true) (hf : Region.free md ops listed i = true) (hr : (Region.ready md ops listed).contains i = true)
    (hw : Region.wanted ⟨dst, op, tyy, pos, after, gd⟩ (yielded ops a.tmps) = true) (hQ : PanOk Q) (ho : op = .load ty x) {b f : Nat} (hx : a.eval x = .pointer (some ⟨b, f, none⟩)) (hA : AggOf P ty cs.length) (hc : ∀ w, S w → CellsAt w b f cs) (hS : S w)
    (h : wpAnyI F n P md ops Q S fuel (listed.setIfInBounds i true) (a.put dst (.agg cs.toArray)) w) : wpAnyI F n P md ops Q S (fuel + 1) listed a w :=
  ai_val i hi hF hd hs hf hr hw hQ (fun w' hw' => by
    unfold execOp
    simp only [ho, hx, Instr.loadAt, Instr.sureAddr, Sem.run_bind, Sem.run_pure, Result.andThen_ok, run_loadVar_agg hA (hc w' hw')]) hS h
theorem ai_one (hr : Region.ready md ops listed = [i]) (h : wpOpIn F n P ops Q i (fun a' w' => S w' ∧ wpAnyI F n P md ops Q S fuel (listed.setIfInBounds i true) a' w') a w) : wpAnyI F n P md ops Q S (fuel + 1) listed a w :=
  ⟨fun h0 => (by rw [hr] at h0; cases h0), fun j hj => by rw [hr] at hj; simp at hj; subst hj; exact h⟩
theorem ai_done (hr : Region.ready md ops listed = []) (h : Q .normal a w) : ∀ fuel, wpAnyI F n P md ops Q S fuel listed a w
  | 0 => ⟨hr, h⟩
  | _ + 1 => ⟨fun _ => h, by rw [hr]; simp⟩
theorem ai_end (hr : Region.ready md ops listed = []) (h : Q .normal a w) (fuel : Nat) : wpAnyI F n P md ops (noPanic Q) S fuel listed a w := ai_done (Q := noPanic Q) hr h fuel
variable {K : Act → World → Prop}
/-- A call of a Go function. -/
theorem oi_call {f : FuncId} {args : Array Operand} {ats : Array TypeId} {post : Ending → World → Prop} (hi : ops[i]? = some ⟨dst, op, tyy, pos, after, gd⟩) (hF : Open F) (hd : NoDef ops) (hw : Region.wanted ⟨dst, op, tyy, pos, after, gd⟩ (yielded ops a.tmps) = true)
    (ho : op = .call { callee := .value (.func f), args := args, argTypes := ats }) {vs : Array Value} (hv : args.map a.eval = vs) {fn : Func} (hfn : P.funcs[f]? = some fn) (hnm : (fn.name == "runtime.NumGoroutine") = false) (hbd : fn.body.isNone = false)
    (hc : Calls P f vs w post) (h : ∀ e w', post e w' → ∃ v, e = .returned v ∧ K (a.put dst v) w') : wpOpIn F n P ops Q i K a w :=
  wpOp_in hF hd (fun _ _ h => h) (op_call (Q := noOut Q) i hi hw ho hv hfn hnm hbd hc h)
/-- A call of yield, of one value. -/
theorem oi_yield {l : Nat} {g : Operand} {args : Array Operand} {ats : Array TypeId} {post : Ending → World → Prop} (hi : ops[i]? = some ⟨dst, op, tyy, pos, after, gd⟩) (hF : Open F) (hd : NoDef ops) (hw : Region.wanted ⟨dst, op, tyy, pos, after, gd⟩ (yielded ops a.tmps) = true)
    (ho : op = .call { callee := .value g, args := args, argTypes := ats }) (hg : a.eval g = .func (.yield l) #[] #[]) {vs : Array Value} (hv : args.map a.eval = vs) {m : Nat} (hY : YieldAt F m P l vs w post) (hm : m = n - 1)
    (h : ∀ e w', post e w' → ∃ v, e = .returned v ∧ K (a.put dst v) w') : wpOpIn F n P ops Q i K a w := by
  obtain ⟨fn, tmps, assign, body, hy, hR⟩ := hY
  subst hm
  refine wpOpIn_step hi (fun K' hK => ?_)
  rw [if_pos hw]
  subst hv
  unfold Oper.wpIn
  refine ⟨fun f _ => hF.fn f, ?_⟩
  rw [Oper.semAt_plain F _ _ (fun c => hd i _ c hi)]
  have e : (execOp a.eval ⟨dst, op, tyy, pos, after, gd⟩).run P w = .ok (.round l fn tmps assign body) w := by
    unfold execOp
    simp only [ho, resolve, hg, Sem.run_bind, invoke]
    simpa [go_sem] using hy
  rw [e]
  refine ⟨fun h => (by rw [hF.depth] at h; cases h), hR.mono fun e w' hp => ?_⟩
  obtain ⟨v, rfl, hrest⟩ := h e w' hp
  exact hK _ _ hrest
end
/-- Where no depth is asked, the figure is none's. -/
theorem yieldAt_any {F : Fence} (hF : Open F) {m m' : Nat} {P : Program} {l : Nat} {args : Array Value} {W : World} {R : Ending → World → Prop} (h : YieldAt F m P l args W R) : YieldAt F m' P l args W R := by
  obtain ⟨fn, tmps, assign, body, hy, hR⟩ := h
  exact ⟨fn, tmps, assign, body, hy, hR.1, fun c cs _ => hR.2 c cs (fun d h => by rw [hF.depth] at h; cases h)⟩
end Go.Proofs.YteflgdnekflbbaaDoor

namespace Go.Proofs.YteflgdnekflbbaaDoor
open Go.RowKit

/-- All that lay below B0; cells that are not of the types of Us; and what is no cells, from B2 on. -/
structure KpU (Us : List Nat) (B0 B2 : Nat) (W W' : World) : Prop where
  below : Below B0 W W'
  cells : KeepT Us W W'
  other : KeepsFrom B2 W W'
section
variable {Us : List Nat} {B0 B2 : Nat} {A B C W W' : World}
theorem KpU.refl (W : World) : KpU Us B0 B2 W W := ⟨Below.refl _ _, ⟨Nat.le_refl _, fun _ _ _ _ _ _ => rfl⟩, KeepsFrom.refl _ _⟩
theorem KpU.trans (h : KpU Us B0 B2 A B) (k : KpU Us B0 B2 B C) : KpU Us B0 B2 A C := ⟨h.below.trans k.below, h.cells.trans k.cells, h.other.trans k.other⟩
theorem KpU.blk (h : KpU Us B0 B2 W W') {g t : Nat} {cs : Array Value} (hb : Blk W g t cs) (ht : t ∉ Us) : Blk W' g t cs := (h.cells.2 g cs t (0, 0) hb ht).trans hb
theorem KpU.size (h : KpU Us B0 B2 W W') : W.heap.size ≤ W'.heap.size := h.cells.1
/-- A step that changes nothing that lay at the start. -/
theorem KpU.step {F : List Nat} (h : KpU Us B0 B2 A B) (k : Keep F B C) (hF : ∀ x, x ∈ F → A.heap.size ≤ x) (hB : B0 ≤ A.heap.size) : KpU Us B0 B2 A C := by
  have h0 := h.below.size
  refine ⟨h.below.trans ⟨k.os, k.tape, k.output, k.size, fun x hx => k.block x (by omega) (fun hm => by have := hF x hm; omega)⟩, ⟨by have := k.size; omega, fun g cs t fr hg ht => ?_⟩, ⟨by have := k.size; omega, fun x o hx ho hc => ?_⟩⟩
  · have hlt := (Array.getElem?_eq_some_iff.1 hg).1
    exact (k.block g (by omega) (fun hm => by have := hF g hm; omega)).trans (h.cells.2 g cs t fr hg ht)
  · have hlt := (Array.getElem?_eq_some_iff.1 ho).1
    exact (k.block x (by omega) (fun hm => by have := hF x hm; omega)).trans (h.other.same x o hx ho hc)
theorem KpU.own (hB : B0 ≤ A.heap.size) : ∀ {β : Type}, OwnFrom A.heap.size (fun (_ : β) W => KpU Us B0 B2 A W) := fun {β} s X Y row hs hg hr => by
  have k : Keep row.toList X Y := Keep.of_grown hg
  exact hs.step k (fun x hx => (hr x (by simpa using hx)).1) hB
theorem kpu_keep0 (k : Keep [] W W') (hB : B0 ≤ W.heap.size) : KpU Us B0 B2 W W' := (KpU.refl W).step k (by simp) hB
theorem kpu_of {F : List Nat} (k : Keep F W W') (hF : ∀ y, y ∈ F → B0 ≤ y ∧ ∃ cs t fr, W.heap[y]? = some (.cells cs t fr) ∧ t ∈ Us) (hB : B0 ≤ W.heap.size) : KpU Us B0 B2 W W' := by
  refine ⟨⟨k.os, k.tape, k.output, k.size, fun x hx => k.block x (by omega) (fun hm => by have := (hF x hm).1; omega)⟩, ⟨k.size, fun g cs t fr hg ht => k.block g (Array.getElem?_eq_some_iff.1 hg).1 (fun hm => ?_)⟩, ⟨k.size, fun x o _ ho hc => (k.block x (Array.getElem?_eq_some_iff.1 ho).1 (fun hm => ?_)).trans ho⟩⟩
  · obtain ⟨_, cs', t', fr', h1, h2⟩ := hF g hm
    rw [hg] at h1
    cases h1
    exact ht h2
  · obtain ⟨_, cs', t', fr', h1, h2⟩ := hF x hm
    rw [ho] at h1
    cases h1
    cases hc
theorem kpu_put {l : Nat} {o : Obj} (o' : Obj) (hl : B0 ≤ l) (h2 : l < B2) (ho : W.heap[l]? = some o) (hc : o.isCells = false) : KpU Us B0 B2 W (W.putObj l o') := by
  have k := keep_putObj W l o'
  refine ⟨⟨k.os, k.tape, k.output, k.size, fun x hx => World.putObj_heap_other (by omega)⟩, ⟨k.size, fun g cs t fr hg ht => World.putObj_heap_other (fun e => ?_)⟩, ⟨k.size, fun x o2 hx ho2 _ => (World.putObj_heap_other (by omega)).trans ho2⟩⟩
  subst e
  rw [hg] at ho
  cases ho
  cases hc
/-- What lay at the start, below B0, is as it was. -/
theorem KpU.keep0 (h : KpU Us B0 B2 W W') : Below B0 W W' := h.below
end
theorem keepB {w w' : World} (h : Below w.heap.size w w') : Keep [] w w' := ⟨h.os, h.tape, h.output, h.size, fun x hx _ => h.block x hx⟩
/-- Nothing but new blocks: what may be stable for an iterator that writes nothing. -/
abbrev LoN (_ : Nat) (_ : Obj) : Prop := False
theorem OwnT.k0 {β : Type} {B : Nat} {Lo : Nat → Obj → Prop} {I : β → World → Prop} (h : OwnT B Lo I) {s : β} {W W' : World} (hs : I s W) (k : Keep [] W W') : I s W' :=
  h s W W' none hs ⟨k.os, k.tape, k.output, k.size, fun i hi _ => k.block i hi (by simp)⟩ (fun r e => by cases e)
theorem same_putO {C : List Nat} {W : World} {l : Nat} (hC : l ∉ C) (o' : Obj) : Same C W (W.putObj l o') := fun k hk => World.putObj_heap_other (fun e => hC (by rw [← e]; exact hk))
theorem unown_ne {w : World} {base : Nat} {e : TypeId} {size n : Nat} {v : Value} {xs : List Value} {r t : Nat} {cs : Array Value} {fr : Nat × Nat} (h : w.ownsRow base e size v n xs) (hr : w.heap[r]? = some (.cells cs t fr)) (hne : e ≠ t) : v.ownBlock ≠ some r := by
  rcases h.2 with ⟨rfl, _⟩ | ⟨g', cap, cur, rfl, _, hh, _⟩
  · simp [Value.ownBlock]
  · intro he
    simp [Value.ownBlock] at he
    subst he
    rw [hh] at hr
    cases hr
    exact hne rfl
theorem row_typed {w : World} {base : Nat} {e : TypeId} {size n : Nat} {v : Value} {xs : List Value} (h : w.ownsRow base e size v n xs) : ∀ y, y ∈ v.ownBlock.toList → ∃ cs fr, w.heap[y]? = some (.cells cs e fr) := by
  intro y hy
  rcases h.2 with ⟨rfl, _⟩ | ⟨g', cap, cur, rfl, _, hh, _⟩
  · simp [Value.ownBlock] at hy
  · simp [Value.ownBlock] at hy
    subst hy
    exact ⟨_, _, hh⟩
/-- A box and a row of its own are left alone by an iterator that writes nothing. -/
theorem box_rowT {β : Type} {W2 : World} {g base e tb size : Nat} (hg : g < W2.heap.size) (num : β → Nat) (f : β → List Value) :
    OwnT W2.heap.size LoN (fun pre W' => ∃ v, Blk W' g tb #[v] ∧ W'.ownsRow base e size v (num pre) (f pre) ∧ Keep [g] W2 W') := by
  rintro pre X Y row ⟨v, hb, ho, hk⟩ hgr hr
  have hge : ∀ r, row = some r → W2.heap.size ≤ r := fun r e => by
    obtain ⟨o, _, ⟨h1, _⟩ | ⟨_, h1⟩⟩ := hr r e
    · exact h1
    · exact h1.elim
  refine ⟨v, (hgr.block g hb.lt (fun e => by have := hge _ e.symm; omega)).trans hb, ?_, hk.trans (Keep.of_grown hgr) (fun x hx hlt => by have := hge x (by simpa using hx); omega)⟩
  refine own_keep ho (Keep.of_grown hgr) (fun gb hgb hx => ?_)
  obtain ⟨o, ho2, ⟨_, h2⟩ | ⟨_, h2⟩⟩ := hr gb (by simpa using hx)
  · obtain ⟨cs, t, fr, hh⟩ := own_cells ho gb (by simp [hgb])
    rw [ho2] at hh; cases hh; cases h2
  · exact h2.elim
end Go.Proofs.YteflgdnekflbbaaDoor
