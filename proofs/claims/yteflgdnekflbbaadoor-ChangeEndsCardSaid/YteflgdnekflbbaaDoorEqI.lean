/- Structs and arrays loaded from memory and stored into it, whatever their number of cells: laws for the walk. No condition. == and != of whole structs and arrays of ints, whatever their fields: they decide whether all cells are the same. No condition. -/
import Derived.Test.YteflgdnekflbbaaDoorBase
import Derived.WalkKit
import Derived.OwnWalkIn
namespace Go.Proofs.YteflgdnekflbbaaDoor
open Go.RowKit

/-- The cells from ⟨b, o⟩ on are cs. -/
def CellsAt (w : World) (b o : Nat) (cs : List Value) : Prop := ∀ j u, cs[j]? = some u → w.cell? ⟨b, o + j, none⟩ = some u
/-- A struct's or an array's type of so many cells. -/
def AggOf (P : Program) (ty : TypeId) (k : Nat) : Prop :=
  (match P.underlying ty with | some (.struct _) | some (.array _ _) => true | _ => false) = true ∧ (P.info? ty).map (·.size) = some k

theorem run_loadVar_agg {P : Program} {w : World} {b o : Nat} {ty : TypeId} {cs : List Value} (hA : AggOf P ty cs.length) (hc : CellsAt w b o cs) :
    (loadVar ty ⟨b, o, none⟩).run P w = .ok (.agg cs.toArray) w := by
  obtain ⟨hd, hi⟩ := hA
  have hl : (loadCells ⟨b, o, none⟩ cs.length).run P w = .ok cs.toArray w :=
    run_loadCells_list (P := P) w ⟨b, o, none⟩ cs (fun j v hv => by rw [Addr.add_lit]; exact hc j v hv)
  cases hu : P.underlying ty with
  | none => simp [hu] at hd
  | some d =>
    cases hq : P.info? ty with
    | none => simp [hq] at hi
    | some i =>
      have hs : i.size = cs.length := by simpa [hq] using hi
      have hagg : (isAgg ty).run P w = .ok true w := by
        unfold isAgg
        rw [Sem.run_bind, run_underlying hu w]
        rw [hu] at hd
        cases d <;> simp_all
      simp [loadVar, Sem.run_bind, hagg, sizeOf, typeInfo, hq, hs, hl]

section
variable {P : Program} {ops : Array Oper} {rest : List Oper} {o : Oper} {a : Act} {Q : Exit → Act → World → Prop} {w : World}
theorem wpList_load_agg (hgd : o.guard = none) (ty : TypeId) (x : Operand) (ho : o.op = .load ty x) {b f : Nat} (hx : a.eval x = .pointer (some ⟨b, f, none⟩)) {cs : List Value} (hA : AggOf P ty cs.length) (hc : CellsAt w b f cs)
    (h : wpList P ops Q rest (a.put o.dst (.agg cs.toArray)) w) : wpList P ops Q (o :: rest) a w := by
  refine wpList_plain hgd fun K hK => ?_
  unfold Oper.wp execOp
  simp only [ho, hx, Instr.loadAt, Instr.sureAddr, Sem.run_bind, Sem.run_pure, Result.andThen_ok, run_loadVar_agg hA hc]
  exact hK _ _ h
end

/-- vs stored from cell o of block g on. -/
def storeRow (w : World) (g o : Nat) : List Value → World
  | [] => w
  | v :: vs => storeRow (w.setCell ⟨g, o, none⟩ v) g (o + 1) vs
/-- The cells behind it. -/
def splice (cs : Array Value) (o : Nat) : List Value → Array Value
  | [] => cs
  | v :: vs => splice (cs.setIfInBounds o v) (o + 1) vs
theorem splice_size (vs : List Value) : ∀ (cs : Array Value) (o : Nat), (splice cs o vs).size = cs.size := by
  induction vs with
  | nil => intro cs o; rfl
  | cons v vs ih => intro cs o; rw [splice, ih]; simp
theorem splice_get (vs : List Value) : ∀ (cs : Array Value) (o i : Nat), o + vs.length ≤ cs.size → (splice cs o vs)[i]? = if o ≤ i ∧ i < o + vs.length then vs[i - o]? else cs[i]? := by
  induction vs with
  | nil => intro cs o i h; rw [splice, if_neg (by simp)]
  | cons v vs ih =>
    intro cs o i h
    simp only [List.length_cons] at h ⊢
    rw [splice, ih _ _ _ (by simp; omega)]
    by_cases h1 : o + 1 ≤ i ∧ i < o + 1 + vs.length
    · rw [if_pos h1, if_pos (by omega), show i - o = (i - (o + 1)) + 1 by omega, List.getElem?_cons_succ]
    · rw [if_neg h1, Array.getElem?_setIfInBounds]
      by_cases h2 : o = i
      · subst h2
        rw [if_pos rfl, if_pos (by omega), if_pos (by omega), Nat.sub_self]; rfl
      · rw [if_neg h2, if_neg (by omega)]
theorem splice_all (vs : List Value) (cs : Array Value) (h : vs.length = cs.size) : splice cs 0 vs = vs.toArray := by
  apply Array.ext_getElem?
  intro i
  rw [splice_get _ _ _ _ (by omega)]
  by_cases hi : i < vs.length
  · rw [if_pos (by omega)]; simp
  · rw [if_neg (by omega), Array.getElem?_eq_none (by omega), Array.getElem?_eq_none (by simp; omega)]
theorem storeRow_blk (vs : List Value) : ∀ {w : World} {g t : Nat} {cs : Array Value} (o : Nat), Blk w g t cs → Blk (storeRow w g o vs) g t (splice cs o vs) ∧ Keep [g] w (storeRow w g o vs) := by
  induction vs with
  | nil => intro w g t cs o h; exact ⟨h, Keep.refl _ _⟩
  | cons v vs ih =>
    intro w g t cs o h
    obtain ⟨h1, h2⟩ := ih (o + 1) (h.set_ o v)
    exact ⟨h1, (keep_set w g o v).trans h2 (fun x hx _ => hx)⟩
theorem run_storeCells_blk {P : Program} (vs : List Value) : ∀ {w : World} {g t : Nat} {cs : Array Value} (a : Addr) (o i : Nat), a = ⟨g, o, none⟩ → Blk w g t cs → (∀ v, v ∈ vs → v.oneCell' = true) → o + i + vs.length ≤ cs.size →
    (storeCells a vs i).run P w = .ok () (storeRow w g (o + i) vs) := by
  induction vs with
  | nil => intro w g t cs a o i _ _ _ _; simp [storeCells, storeRow, Sem.run_pure]
  | cons v vs ih =>
    intro w g t cs a o i ha hb h1 hl
    subst ha
    simp only [List.length_cons] at hl
    have hc : w.cell? ⟨g, o + i, none⟩ = some (cs[o + i]'(by omega)) := by rw [hb.cell]; exact Array.getElem?_eq_getElem (by omega)
    have hf := hb.frozen (o + i)
    have hst : (store (⟨g, o + i, none⟩ : Addr) v).run P w = .ok () (w.setCell ⟨g, o + i, none⟩ v) := by
      rw [run_store P w _ v _ (h1 v (by simp)), hc, hf]; rfl
    rw [storeCells, Sem.run_bind, Addr.add_lit, hst]
    have hb' := hb.set_ (o + i) v
    have := ih ⟨g, o, none⟩ o (i + 1) rfl hb' (fun u hu => h1 u (by simp [hu])) (by simp; omega)
    simpa [storeRow, Result.andThen, Nat.add_assoc] using this
theorem run_storeVar_blk {P : Program} {w : World} {g t ty : TypeId} {cs : Array Value} {vs : List Value} (o : Nat) (hi : (P.info? ty).map (·.size) = some vs.length) (hb : Blk w g t cs) (h1 : ∀ v, v ∈ vs → v.oneCell' = true) (hl : o + vs.length ≤ cs.size) :
    (storeVar ty ⟨g, o, none⟩ (.agg vs.toArray)).run P w = .ok () (storeRow w g o vs) := by
  cases hq : P.info? ty with
  | none => simp [hq] at hi
  | some i =>
    have hs : i.size = vs.length := by simpa [hq] using hi
    have h2 := run_storeCells_blk (P := P) vs ⟨g, o, none⟩ o 0 rfl hb h1 (by omega)
    rw [Nat.add_zero] at h2
    simp [storeVar, Sem.run_bind, sizeOf, typeInfo, hq, hs, Value.cells, h2]

section
variable {P : Program} {ops : Array Oper} {rest : List Oper} {o : Oper} {a : Act} {Q : Exit → Act → World → Prop} {w : World}
/-- A whole struct or array stored into block g from cell f on. -/
theorem wpList_store_agg (hgd : o.guard = none) (ty : TypeId) (x y : Operand) (ho : o.op = .store ty x y) {g f t : Nat} {cs : Array Value} {vs : List Value} (hx : a.eval x = .pointer (some ⟨g, f, none⟩)) (hy : a.eval y = .agg vs.toArray)
    (hi : (P.info? ty).map (·.size) = some vs.length) (hb : Blk w g t cs) (h1 : ∀ v, v ∈ vs → v.oneCell' = true) (hl : f + vs.length ≤ cs.size)
    (h : ∀ w', Blk w' g t (splice cs f vs) → Keep [g] w w' → wpList P ops Q rest (a.put o.dst undef) w') : wpList P ops Q (o :: rest) a w := by
  refine wpList_plain hgd fun K hK => ?_
  obtain ⟨h2, h3⟩ := storeRow_blk vs f hb
  unfold Oper.wp execOp
  simp only [ho, hx, hy, Instr.storeAt, Instr.sureAddr, Sem.run_bind, Sem.run_pure, Result.andThen_ok, run_storeVar_blk f hi hb h1 hl]
  exact hK _ _ (h _ h2 h3)
theorem wpList_store_all (hgd : o.guard = none) (ty : TypeId) (x y : Operand) (ho : o.op = .store ty x y) {g t : Nat} {cs : Array Value} {vs : List Value} (hx : a.eval x = .pointer (some ⟨g, 0, none⟩)) (hy : a.eval y = .agg vs.toArray)
    (hi : (P.info? ty).map (·.size) = some vs.length) (hb : Blk w g t cs) (h1 : ∀ v, v ∈ vs → v.oneCell' = true) (hl : vs.length = cs.size)
    (h : ∀ w', Blk w' g t vs.toArray → Keep [g] w w' → wpList P ops Q rest (a.put o.dst undef) w') : wpList P ops Q (o :: rest) a w :=
  wpList_store_agg hgd ty x y ho hx hy hi hb h1 (by omega) (by rw [splice_all vs cs hl]; exact h)
end
theorem results_blk {P : Program} {w : World} {fn : Func} {p : Tmp} {ty : TypeId} (h : fn.results = #[.cell p ty]) (tmps : Array Value) {g t : Nat} {vs : List Value} (hp : tmps.getD p undef = .pointer (some ⟨g, 0, none⟩)) (hb : Blk w g t vs.toArray) (hA : AggOf P ty vs.length) :
    (results fn tmps).run P w = .ok (.agg vs.toArray) w := by
  have hp' : tmps[p]?.getD undef = .pointer (some ⟨g, 0, none⟩) := by simpa using hp
  have hc : CellsAt w g 0 vs := fun j u hu => by rw [Nat.zero_add, hb.cell]; simpa using hu
  simp [results, h, hp', asAddr, run_loadVar_agg hA hc]
theorem Blk.cellsAt {w : World} {g t : Nat} {vs : List Value} (hb : Blk w g t vs.toArray) : CellsAt w g 0 vs := fun j u hu => by rw [Nat.zero_add, hb.cell]; simpa using hu

/-- An element of an array value, the elements of one cell each. -/
theorem run_index_agg {P : Program} {t e : TypeId} {n : Nat} (ht : P.underlying t = some (.array n e)) {d : TypeDesc} (he : P.underlying e = some d) (hd : (match d with | .struct _ | .array _ _ => false | _ => true) = true) (hs : (P.info? e).map (·.size) = some 1)
    {cs : Array Value} {v : Value} (k : Nat) (hk : k < n) (hv : cs[k]? = some v) (w : World) :
    (Instr.index t (.agg cs) (.int .i64 (k : Int))).run P w = .ok v w := by
  cases hq : P.info? e with
  | none => simp [hq] at hs
  | some i =>
    have h1 : i.size = 1 := by simpa [hq] using hs
    have hagg : (isAgg e).run P w = .ok false w := by
      unfold isAgg
      rw [Sem.run_bind, run_underlying he w]
      cases d <;> simp_all
    have hb : (0 : Int) ≤ (k : Int) ∧ (k : Int) < (n : Int) := by omega
    simp [Instr.index, asIntOf, run_underlying ht, hb, Sem.run_bind, sizeOf, typeInfo, hq, h1, part, hagg, hv]
    exact fun h => absurd h (by omega)
end Go.Proofs.YteflgdnekflbbaaDoor

namespace Go.Proofs.YteflgdnekflbbaaDoor
open Go.RowKit

/-- Ints as cells. -/
abbrev iv (xs : List Int) : List Value := xs.map (Value.int .i64)
theorem iv_one (xs : List Int) : ∀ u ∈ iv xs, u.oneCell' = true := ints_oneCell .i64 xs
theorem iv_get {xs : List Int} {k : Nat} (h : k < xs.length) : (iv xs)[k]? = some (.int .i64 xs[k]) := by rw [List.getElem?_map, List.getElem?_eq_getElem h]; rfl

/-- == of two values of type t, of n int cells each, decides whether the cells are the same. -/
def EqI (P : Program) (t : TypeId) (n d : Nat) : Prop :=
  ∀ (xs ys : List Int), xs.length = n → ys.length = n → ∀ w, (Op.equalIn d t (.agg (xs.map (Value.int .i64)).toArray) (.agg (ys.map (Value.int .i64)).toArray)).run P w = .ok (decide (xs = ys)) w

theorem run_forIn_all {P : Program} {w : World} (f : Nat → (Option Bool × PUnit) → Sem (ForInStep (Option Bool × PUnit))) (p : Nat → Bool) (l : List Nat)
    (h : ∀ i, i ∈ l → ∀ s, (f i s).run P w = .ok (if p i then .yield (none, ()) else .done (some false, ())) w) :
    (forIn l ((none, ()) : Option Bool × PUnit) f).run P w = .ok (if l.all p then (none, ()) else (some false, ())) w := by
  induction l with
  | nil => simp
  | cons i l ih =>
    have hi := h i (by simp) (none, ())
    have ih := ih (fun j hj => h j (by simp [hj]))
    simp only [List.forIn_cons, Sem.run_bind, hi, Result.andThen_ok, List.all_cons]
    by_cases hp : p i = true
    · rw [if_pos hp]; simpa [hp] using ih
    · rw [if_neg hp]; simp [hp]

theorem eqI_array {P : Program} {t e : TypeId} {n d : Nat} (ht : P.underlying t = some (.array n e)) (he : P.underlying e = some (.int .i64)) (hs : (P.info? e).map (·.size) = some 1) : EqI P t n (d + 2) := by
  intro xs ys hx hy w
  cases hq : P.info? e with
  | none => simp [hq] at hs
  | some i =>
    have h1 : i.size = 1 := by simpa [hq] using hs
    have hagg : ∀ w, (isAgg e).run P w = .ok false w := by
      intro w
      unfold isAgg
      rw [Sem.run_bind, run_underlying he w]
      rfl
    have hcell : ∀ k, k < n → ∀ w, (Op.equalIn (d + 1) e (.int .i64 (xs.getD k 0)) (.int .i64 (ys.getD k 0))).run P w = .ok (xs.getD k 0 == ys.getD k 0) w := by
      intro k hk w
      simp [Op.equalIn, run_underlying he]
    have hall : (List.range' 0 n).all (fun i => xs.getD i 0 == ys.getD i 0) = decide (xs = ys) := by
      rw [Bool.eq_iff_iff]
      simp only [List.all_eq_true, decide_eq_true_eq, List.mem_range'_1, beq_iff_eq]
      constructor
      · intro h
        apply List.ext_getElem (by omega)
        intro k hk hk'
        have := h k (by omega)
        rw [List.getD_eq_getElem?_getD, List.getD_eq_getElem?_getD, List.getElem?_eq_getElem hk, List.getElem?_eq_getElem hk'] at this
        exact this
      · rintro rfl k _; rfl
    unfold Op.equalIn
    generalize Op.equalIn (d + 1) = E at hcell ⊢
    have hsz : (sizeOf e).run P w = .ok 1 w := by simp [sizeOf, typeInfo, Sem.run_bind, hq, h1]
    simp only [Sem.run_bind, run_underlying ht, Result.andThen_ok, Std.Legacy.Range.forIn_eq_forIn_range', Std.Legacy.Range.size, hsz]
    rw [run_forIn_all _ (fun i => xs.getD i 0 == ys.getD i 0)]
    · simp only [Nat.sub_zero, Nat.add_sub_cancel, Nat.div_one]
      rw [hall]
      cases decide (xs = ys) <;> rfl
    · intro k hk s
      simp at hk
      have a1 : (xs.map (Value.int .i64)).toArray[k]? = some (.int .i64 (xs.getD k 0)) := by simp [show k < xs.length by omega]
      have a2 : (ys.map (Value.int .i64)).toArray[k]? = some (.int .i64 (ys.getD k 0)) := by simp [show k < ys.length by omega]
      have p1 : (part e (xs.map (Value.int .i64)).toArray (k * 1)).run P w = .ok (.int .i64 (xs.getD k 0)) w := by simp [part, hagg, a1, Nat.mul_one, Sem.run_bind]
      have p2 : (part e (ys.map (Value.int .i64)).toArray (k * 1)).run P w = .ok (.int .i64 (ys.getD k 0)) w := by simp [part, hagg, a2, Nat.mul_one, Sem.run_bind]
      simp only [Sem.run_bind, p1, p2, Result.andThen_ok, hcell k (by omega)]
      cases xs.getD k 0 == ys.getD k 0 <;> rfl

/-- A part of a value: one cell, or many. -/
def PartI (P : Program) (t : TypeId) (n d : Nat) : Prop :=
  ∀ (xs ys : List Int) (o : Nat), o + n ≤ xs.length → o + n ≤ ys.length → ∀ w, ∃ a b, (part t (xs.map (Value.int .i64)).toArray o).run P w = .ok a w ∧ (part t (ys.map (Value.int .i64)).toArray o).run P w = .ok b w ∧
    (Op.equalIn d t a b).run P w = .ok (decide ((xs.drop o).take n = (ys.drop o).take n)) w
theorem partI_int {P : Program} {e : TypeId} {d : Nat} (he : P.underlying e = some (.int .i64)) : PartI P e 1 (d + 1) := by
  intro xs ys o hx hy w
  have hagg : ∀ w, (isAgg e).run P w = .ok false w := by
    intro w
    unfold isAgg
    rw [Sem.run_bind, run_underlying he w]
    rfl
  refine ⟨.int .i64 (xs[o]'(by omega)), .int .i64 (ys[o]'(by omega)), ?_, ?_, ?_⟩
  · simp [part, hagg, Sem.run_bind, show o < xs.length by omega]
  · simp [part, hagg, Sem.run_bind, show o < ys.length by omega]
  · have e1 : (xs.drop o).take 1 = [xs[o]'(by omega)] := by rw [List.drop_eq_getElem_cons (by omega)]; rfl
    have e2 : (ys.drop o).take 1 = [ys[o]'(by omega)] := by rw [List.drop_eq_getElem_cons (by omega)]; rfl
    rw [e1, e2]
    simp [Op.equalIn, run_underlying he]
    rw [Bool.eq_iff_iff]; simp
theorem partI_agg {P : Program} {t : TypeId} {n d : Nat} (hd : (match P.underlying t with | some (.struct _) | some (.array _ _) => true | _ => false) = true) (hs : (P.info? t).map (·.size) = some n) (hE : EqI P t n d) : PartI P t n d := by
  intro xs ys o hx hy w
  cases hu : P.underlying t with
  | none => simp [hu] at hd
  | some u =>
    cases hq : P.info? t with
    | none => simp [hq] at hs
    | some i =>
      have h1 : i.size = n := by simpa [hq] using hs
      have hagg : ∀ w, (isAgg t).run P w = .ok true w := by
        intro w
        unfold isAgg
        rw [Sem.run_bind, run_underlying hu w]
        rw [hu] at hd
        cases u <;> simp_all
      have hex : ∀ zs : List Int, (zs.map (Value.int .i64)).toArray.extract o (o + n) = (((zs.drop o).take n).map (Value.int .i64)).toArray := by
        intro zs
        simp [List.map_drop, List.map_take]
      have hp : ∀ zs : List Int, (part t (zs.map (Value.int .i64)).toArray o).run P w = .ok (.agg ((((zs.drop o).take n).map (Value.int .i64)).toArray)) w := by
        intro zs
        rw [← hex]
        simp [part, Sem.run_bind, hagg, sizeOf, typeInfo, hq, h1]
      exact ⟨_, _, hp xs, hp ys, hE _ _ (by simp; omega) (by simp; omega) w⟩

/-- A struct's fields, one behind the other from cell o to cell n. -/
def FieldsI (P : Program) (d : Nat) : List Field → Nat → Nat → Prop
  | [], o, n => o = n
  | f :: l, o, n => f.name ≠ "_" ∧ f.offset = o ∧ ∃ s, PartI P f.type s d ∧ FieldsI P d l (o + s) n
theorem FieldsI.le {P : Program} {d : Nat} : ∀ {l : List Field} {o n : Nat}, FieldsI P d l o n → o ≤ n
  | [], _, _, h => Nat.le_of_eq h
  | _ :: _, o, _, ⟨_, _, s, _, h⟩ => Nat.le_trans (Nat.le_add_right o s) (FieldsI.le h)
theorem eqI_struct {P : Program} {t : TypeId} {n d : Nat} {l : List Field} (ht : P.underlying t = some (.struct l.toArray)) (hst : P.stoodInHeld t = false) (hF : FieldsI P d l 0 n) : EqI P t n (d + 1) := by
  intro xs ys hx hy w
  have hloop : ∀ (l : List Field) (o : Nat), FieldsI P d l o n → (forIn l ((none, ()) : Option Bool × PUnit) (fun f __s => do
      if f.name ≠ "_" then do
        let __do_lift ← part f.type (xs.map (Value.int .i64)).toArray f.offset
        let __do_lift_1 ← part f.type (ys.map (Value.int .i64)).toArray f.offset
        let __do_lift ← Op.equalIn d f.type __do_lift __do_lift_1
        if (!__do_lift) = true then pure (ForInStep.done (some false, ())) else do
          pure (ForInStep.yield (none, ()))
      else do
        pure (ForInStep.yield (none, ())) : Field → Option Bool × PUnit → Sem (ForInStep (Option Bool × PUnit)))).run P w = .ok (if xs.drop o = ys.drop o then (none, ()) else (some false, ())) w := by
    intro l
    induction l with
    | nil =>
      intro o h
      have h : o = n := h
      subst h
      rw [List.drop_of_length_le (by omega), List.drop_of_length_le (by omega)]
      simp
    | cons f l ih =>
      rintro o ⟨hn, ho, s, hp, hr⟩
      have hle := hr.le
      obtain ⟨a, b, e1, e2, e3⟩ := hp xs ys o (by omega) (by omega) w
      have ih := ih _ hr
      rw [List.forIn_cons]
      simp only [Sem.run_bind, ho, hn, ne_eq, not_false_eq_true, if_true, e1, e2, e3, Result.andThen_ok]
      by_cases hd : (xs.drop o).take s = (ys.drop o).take s
      · have e : (xs.drop o = ys.drop o) ↔ (xs.drop (o + s) = ys.drop (o + s)) := by
          constructor
          · intro h; rw [← List.drop_drop, ← List.drop_drop, h]
          · intro h
            rw [← List.drop_drop, ← List.drop_drop] at h
            rw [← List.take_append_drop s (xs.drop o), ← List.take_append_drop s (ys.drop o), hd, h]
        simp only [hd, decide_true, Bool.not_true, Bool.false_eq_true, if_false, Sem.run_pure, Result.andThen_ok]
        rw [ih]
        simp only [e]
      · have e : ¬ (xs.drop o = ys.drop o) := fun h => hd (by rw [h])
        simp only [hd, decide_false, Bool.not_false, if_true, Sem.run_pure, Result.andThen_ok, e, if_false]
  have hl := hloop l 0 hF
  rw [List.drop_zero, List.drop_zero] at hl
  have hprog : (program : Sem Program).run P w = .ok P w := rfl
  unfold Op.equalIn
  simp only [Sem.run_bind, run_underlying ht, Result.andThen_ok, hprog, hst, Bool.false_eq_true, if_false, List.forIn_toArray, hl]
  by_cases h : xs = ys
  · simp [h]
  · simp [h]

/-- The walk's own == and !=. -/
theorem run_eql_I {P : Program} {t : TypeId} {n : Nat} (hE : EqI P t n 10000) (xs ys : List Int) (hx : xs.length = n) (hy : ys.length = n) (w : World) :
    (binOp .eql t (.agg (xs.map (Value.int .i64)).toArray) (.agg (ys.map (Value.int .i64)).toArray)).run P w = .ok (.bool (decide (xs = ys))) w := by
  simp only [binOp]
  simp [Op.equal, Op.maxDepth, hE xs ys hx hy w]
theorem run_neq_I {P : Program} {t : TypeId} {n : Nat} (hE : EqI P t n 10000) (xs ys : List Int) (hx : xs.length = n) (hy : ys.length = n) (w : World) :
    (binOp .neq t (.agg (xs.map (Value.int .i64)).toArray) (.agg (ys.map (Value.int .i64)).toArray)).run P w = .ok (.bool (!decide (xs = ys))) w := by
  simp only [binOp]
  simp [Op.equal, Op.maxDepth, hE xs ys hx hy w]
theorem guard_eql_I {P : Program} {t : TypeId} (h : P.eqGuardType P.depth t = false) (x y : Operand) (u v : Array Value) (w : World) : (eqGuard .eql t x y (.agg u) (.agg v)).run P w = .ok () w := by
  simp [eqGuard, Sem.run_bind, h]
theorem guard_neq_I {P : Program} {t : TypeId} (h : P.eqGuardType P.depth t = false) (x y : Operand) (u v : Array Value) (w : World) : (eqGuard .neq t x y (.agg u) (.agg v)).run P w = .ok () w := by
  simp [eqGuard, Sem.run_bind, h]
end Go.Proofs.YteflgdnekflbbaaDoor
