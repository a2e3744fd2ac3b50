/- Structs and arrays loaded from memory and stored into it, whatever their number of cells: laws for the walk. No condition. -/
import Derived.Test.YtmhaomoohacjjaaBase
import Derived.WalkKit
import Derived.OwnWalkIn
namespace Go.Proofs.Ytmhaomoohacjjaa
open Go.RowKit

/-- The cells from ⟨b, o⟩ on are cs. -/
def CellsAt (w : World) (b o : Nat) (cs : List Value) : Prop := ∀ j u, cs[j]? = some u → w.cell? ⟨b, o + j, none⟩ = some u
/-- A struct's or an array's type of so many cells. -/
def AggOf (P : Program) (ty : TypeId) (k : Nat) : Prop :=
  (match P.underlying ty with | some (.struct _) | some (.array _ _) => true | _ => false) = true ∧ (P.info? ty).map (·.size) = some k

theorem run_loadVar_agg {P : Program} {w : World} {b o : Nat} {ty : TypeId} {cs : List Value} (hA : AggOf P ty cs.length) (hc : CellsAt w b o cs) :
    (loadVar ty ⟨b, o, none⟩).run P w = .ok (.agg cs.toArray) w := by
  obtain ⟨hd, hi⟩ := hA
  have hl : (loadCells ⟨b, o, none⟩ cs.length).run P w = .ok cs.toArray w :=
    run_loadCells_list (P := P) w ⟨b, o, none⟩ cs (fun j v hv => by rw [Addr.add_lit]; exact hc j v hv)
  cases hu : P.underlying ty with
  | none => simp [hu] at hd
  | some d =>
    cases hq : P.info? ty with
    | none => simp [hq] at hi
    | some i =>
      have hs : i.size = cs.length := by simpa [hq] using hi
      have hagg : (isAgg ty).run P w = .ok true w := by
        unfold isAgg
        rw [Sem.run_bind, run_underlying hu w]
        rw [hu] at hd
        cases d <;> simp_all
      simp [loadVar, Sem.run_bind, hagg, sizeOf, typeInfo, hq, hs, hl]

section
variable {P : Program} {ops : Array Oper} {rest : List Oper} {o : Oper} {a : Act} {Q : Exit → Act → World → Prop} {w : World}
theorem wpList_load_agg (hgd : o.guard = none) (ty : TypeId) (x : Operand) (ho : o.op = .load ty x) {b f : Nat} (hx : a.eval x = .pointer (some ⟨b, f, none⟩)) {cs : List Value} (hA : AggOf P ty cs.length) (hc : CellsAt w b f cs)
    (h : wpList P ops Q rest (a.put o.dst (.agg cs.toArray)) w) : wpList P ops Q (o :: rest) a w := by
  refine wpList_plain hgd fun K hK => ?_
  unfold Oper.wp execOp
  simp only [ho, hx, Instr.loadAt, Instr.sureAddr, Sem.run_bind, Sem.run_pure, Result.andThen_ok, run_loadVar_agg hA hc]
  exact hK _ _ h
end

/-- vs stored from cell o of block g on. -/
def storeRow (w : World) (g o : Nat) : List Value → World
  | [] => w
  | v :: vs => storeRow (w.setCell ⟨g, o, none⟩ v) g (o + 1) vs
/-- The cells behind it. -/
def splice (cs : Array Value) (o : Nat) : List Value → Array Value
  | [] => cs
  | v :: vs => splice (cs.setIfInBounds o v) (o + 1) vs
theorem splice_size (vs : List Value) : ∀ (cs : Array Value) (o : Nat), (splice cs o vs).size = cs.size := by
  induction vs with
  | nil => intro cs o; rfl
  | cons v vs ih => intro cs o; rw [splice, ih]; simp
theorem splice_get (vs : List Value) : ∀ (cs : Array Value) (o i : Nat), o + vs.length ≤ cs.size → (splice cs o vs)[i]? = if o ≤ i ∧ i < o + vs.length then vs[i - o]? else cs[i]? := by
  induction vs with
  | nil => intro cs o i h; rw [splice, if_neg (by simp)]
  | cons v vs ih =>
    intro cs o i h
    simp only [List.length_cons] at h ⊢
    rw [splice, ih _ _ _ (by simp; omega)]
    by_cases h1 : o + 1 ≤ i ∧ i < o + 1 + vs.length
    · rw [if_pos h1, if_pos (by omega), show i - o = (i - (o + 1)) + 1 by omega, List.getElem?_cons_succ]
    · rw [if_neg h1, Array.getElem?_setIfInBounds]
      by_cases h2 : o = i
      · subst h2
        rw [if_pos rfl, if_pos (by omega), if_pos (by omega), Nat.sub_self]; rfl
      · rw [if_neg h2, if_neg (by omega)]
theorem splice_all (vs : List Value) (cs : Array Value) (h : vs.length = cs.size) : splice cs 0 vs = vs.toArray := by
  apply Array.ext_getElem?
  intro i
  rw [splice_get _ _ _ _ (by omega)]
  by_cases hi : i < vs.length
  · rw [if_pos (by omega)]; simp
  · rw [if_neg (by omega), Array.getElem?_eq_none (by omega), Array.getElem?_eq_none (by simp; omega)]
theorem storeRow_blk (vs : List Value) : ∀ {w : World} {g t : Nat} {cs : Array Value} (o : Nat), Blk w g t cs → Blk (storeRow w g o vs) g t (splice cs o vs) ∧ Keep [g] w (storeRow w g o vs) := by
  induction vs with
  | nil => intro w g t cs o h; exact ⟨h, Keep.refl _ _⟩
  | cons v vs ih =>
    intro w g t cs o h
    obtain ⟨h1, h2⟩ := ih (o + 1) (h.set_ o v)
    exact ⟨h1, (keep_set w g o v).trans h2 (fun x hx _ => hx)⟩
theorem run_storeCells_blk {P : Program} (vs : List Value) : ∀ {w : World} {g t : Nat} {cs : Array Value} (a : Addr) (o i : Nat), a = ⟨g, o, none⟩ → Blk w g t cs → (∀ v, v ∈ vs → v.oneCell' = true) → o + i + vs.length ≤ cs.size →
    (storeCells a vs i).run P w = .ok () (storeRow w g (o + i) vs) := by
  induction vs with
  | nil => intro w g t cs a o i _ _ _ _; simp [storeCells, storeRow, Sem.run_pure]
  | cons v vs ih =>
    intro w g t cs a o i ha hb h1 hl
    subst ha
    simp only [List.length_cons] at hl
    have hc : w.cell? ⟨g, o + i, none⟩ = some (cs[o + i]'(by omega)) := by rw [hb.cell]; exact Array.getElem?_eq_getElem (by omega)
    have hf := hb.frozen (o + i)
    have hst : (store (⟨g, o + i, none⟩ : Addr) v).run P w = .ok () (w.setCell ⟨g, o + i, none⟩ v) := by
      rw [run_store P w _ v _ (h1 v (by simp)), hc, hf]; rfl
    rw [storeCells, Sem.run_bind, Addr.add_lit, hst]
    have hb' := hb.set_ (o + i) v
    have := ih ⟨g, o, none⟩ o (i + 1) rfl hb' (fun u hu => h1 u (by simp [hu])) (by simp; omega)
    simpa [storeRow, Result.andThen, Nat.add_assoc] using this
theorem run_storeVar_blk {P : Program} {w : World} {g t ty : TypeId} {cs : Array Value} {vs : List Value} (o : Nat) (hi : (P.info? ty).map (·.size) = some vs.length) (hb : Blk w g t cs) (h1 : ∀ v, v ∈ vs → v.oneCell' = true) (hl : o + vs.length ≤ cs.size) :
    (storeVar ty ⟨g, o, none⟩ (.agg vs.toArray)).run P w = .ok () (storeRow w g o vs) := by
  cases hq : P.info? ty with
  | none => simp [hq] at hi
  | some i =>
    have hs : i.size = vs.length := by simpa [hq] using hi
    have h2 := run_storeCells_blk (P := P) vs ⟨g, o, none⟩ o 0 rfl hb h1 (by omega)
    rw [Nat.add_zero] at h2
    simp [storeVar, Sem.run_bind, sizeOf, typeInfo, hq, hs, Value.cells, h2]

section
variable {P : Program} {ops : Array Oper} {rest : List Oper} {o : Oper} {a : Act} {Q : Exit → Act → World → Prop} {w : World}
/-- A whole struct or array stored into block g from cell f on. -/
theorem wpList_store_agg (hgd : o.guard = none) (ty : TypeId) (x y : Operand) (ho : o.op = .store ty x y) {g f t : Nat} {cs : Array Value} {vs : List Value} (hx : a.eval x = .pointer (some ⟨g, f, none⟩)) (hy : a.eval y = .agg vs.toArray)
    (hi : (P.info? ty).map (·.size) = some vs.length) (hb : Blk w g t cs) (h1 : ∀ v, v ∈ vs → v.oneCell' = true) (hl : f + vs.length ≤ cs.size)
    (h : ∀ w', Blk w' g t (splice cs f vs) → Keep [g] w w' → wpList P ops Q rest (a.put o.dst undef) w') : wpList P ops Q (o :: rest) a w := by
  refine wpList_plain hgd fun K hK => ?_
  obtain ⟨h2, h3⟩ := storeRow_blk vs f hb
  unfold Oper.wp execOp
  simp only [ho, hx, hy, Instr.storeAt, Instr.sureAddr, Sem.run_bind, Sem.run_pure, Result.andThen_ok, run_storeVar_blk f hi hb h1 hl]
  exact hK _ _ (h _ h2 h3)
theorem wpList_store_all (hgd : o.guard = none) (ty : TypeId) (x y : Operand) (ho : o.op = .store ty x y) {g t : Nat} {cs : Array Value} {vs : List Value} (hx : a.eval x = .pointer (some ⟨g, 0, none⟩)) (hy : a.eval y = .agg vs.toArray)
    (hi : (P.info? ty).map (·.size) = some vs.length) (hb : Blk w g t cs) (h1 : ∀ v, v ∈ vs → v.oneCell' = true) (hl : vs.length = cs.size)
    (h : ∀ w', Blk w' g t vs.toArray → Keep [g] w w' → wpList P ops Q rest (a.put o.dst undef) w') : wpList P ops Q (o :: rest) a w :=
  wpList_store_agg hgd ty x y ho hx hy hi hb h1 (by omega) (by rw [splice_all vs cs hl]; exact h)
end
theorem results_blk {P : Program} {w : World} {fn : Func} {p : Tmp} {ty : TypeId} (h : fn.results = #[.cell p ty]) (tmps : Array Value) {g t : Nat} {vs : List Value} (hp : tmps.getD p undef = .pointer (some ⟨g, 0, none⟩)) (hb : Blk w g t vs.toArray) (hA : AggOf P ty vs.length) :
    (results fn tmps).run P w = .ok (.agg vs.toArray) w := by
  have hp' : tmps[p]?.getD undef = .pointer (some ⟨g, 0, none⟩) := by simpa using hp
  have hc : CellsAt w g 0 vs := fun j u hu => by rw [Nat.zero_add, hb.cell]; simpa using hu
  simp [results, h, hp', asAddr, run_loadVar_agg hA hc]
theorem Blk.cellsAt {w : World} {g t : Nat} {vs : List Value} (hb : Blk w g t vs.toArray) : CellsAt w g 0 vs := fun j u hu => by rw [Nat.zero_add, hb.cell]; simpa using hu

/-- An element of an array value, the elements of one cell each. -/
theorem run_index_agg {P : Program} {t e : TypeId} {n : Nat} (ht : P.underlying t = some (.array n e)) {d : TypeDesc} (he : P.underlying e = some d) (hd : (match d with | .struct _ | .array _ _ => false | _ => true) = true) (hs : (P.info? e).map (·.size) = some 1)
    {cs : Array Value} {v : Value} (k : Nat) (hk : k < n) (hv : cs[k]? = some v) (w : World) :
    (Instr.index t (.agg cs) (.int .i64 (k : Int))).run P w = .ok v w := by
  cases hq : P.info? e with
  | none => simp [hq] at hs
  | some i =>
    have h1 : i.size = 1 := by simpa [hq] using hs
    have hagg : (isAgg e).run P w = .ok false w := by
      unfold isAgg
      rw [Sem.run_bind, run_underlying he w]
      cases d <;> simp_all
    have hb : (0 : Int) ≤ (k : Int) ∧ (k : Int) < (n : Int) := by omega
    simp [Instr.index, asIntOf, run_underlying ht, hb, Sem.run_bind, sizeOf, typeInfo, hq, h1, part, hagg, hv]
    exact fun h => absurd h (by omega)
end Go.Proofs.Ytmhaomoohacjjaa
