/- == and != of whole structs and arrays of ints, whatever their fields: they decide whether all cells are the same. No condition. -/
import Derived.Test.YtmhaomoohacjjaaAgg
namespace Go.Proofs.Ytmhaomoohacjjaa
open Go.RowKit

/-- Ints as cells. -/
abbrev iv (xs : List Int) : List Value := xs.map (Value.int .i64)
theorem iv_one (xs : List Int) : ∀ u ∈ iv xs, u.oneCell' = true := ints_oneCell .i64 xs
theorem iv_get {xs : List Int} {k : Nat} (h : k < xs.length) : (iv xs)[k]? = some (.int .i64 xs[k]) := by rw [List.getElem?_map, List.getElem?_eq_getElem h]; rfl

/-- == of two values of type t, of n int cells each, decides whether the cells are the same. -/
def EqI (P : Program) (t : TypeId) (n d : Nat) : Prop :=
  ∀ (xs ys : List Int), xs.length = n → ys.length = n → ∀ w, (Op.equalIn d t (.agg (xs.map (Value.int .i64)).toArray) (.agg (ys.map (Value.int .i64)).toArray)).run P w = .ok (decide (xs = ys)) w

theorem run_forIn_all {P : Program} {w : World} (f : Nat → (Option Bool × PUnit) → Sem (ForInStep (Option Bool × PUnit))) (p : Nat → Bool) (l : List Nat)
    (h : ∀ i, i ∈ l → ∀ s, (f i s).run P w = .ok (if p i then .yield (none, ()) else .done (some false, ())) w) :
    (forIn l ((none, ()) : Option Bool × PUnit) f).run P w = .ok (if l.all p then (none, ()) else (some false, ())) w := by
  induction l with
  | nil => simp
  | cons i l ih =>
    have hi := h i (by simp) (none, ())
    have ih := ih (fun j hj => h j (by simp [hj]))
    simp only [List.forIn_cons, Sem.run_bind, hi, Result.andThen_ok, List.all_cons]
    by_cases hp : p i = true
    · rw [if_pos hp]; simpa [hp] using ih
    · rw [if_neg hp]; simp [hp]

theorem eqI_array {P : Program} {t e : TypeId} {n d : Nat} (ht : P.underlying t = some (.array n e)) (he : P.underlying e = some (.int .i64)) (hs : (P.info? e).map (·.size) = some 1) : EqI P t n (d + 2) := by
  intro xs ys hx hy w
  cases hq : P.info? e with
  | none => simp [hq] at hs
  | some i =>
    have h1 : i.size = 1 := by simpa [hq] using hs
    have hagg : ∀ w, (isAgg e).run P w = .ok false w := by
      intro w
      unfold isAgg
      rw [Sem.run_bind, run_underlying he w]
      rfl
    have hcell : ∀ k, k < n → ∀ w, (Op.equalIn (d + 1) e (.int .i64 (xs.getD k 0)) (.int .i64 (ys.getD k 0))).run P w = .ok (xs.getD k 0 == ys.getD k 0) w := by
      intro k hk w
      simp [Op.equalIn, run_underlying he]
    have hall : (List.range' 0 n).all (fun i => xs.getD i 0 == ys.getD i 0) = decide (xs = ys) := by
      rw [Bool.eq_iff_iff]
      simp only [List.all_eq_true, decide_eq_true_eq, List.mem_range'_1, beq_iff_eq]
      constructor
      · intro h
        apply List.ext_getElem (by omega)
        intro k hk hk'
        have := h k (by omega)
        rw [List.getD_eq_getElem?_getD, List.getD_eq_getElem?_getD, List.getElem?_eq_getElem hk, List.getElem?_eq_getElem hk'] at this
        exact this
      · rintro rfl k _; rfl
    unfold Op.equalIn
    generalize Op.equalIn (d + 1) = E at hcell ⊢
    have hsz : (sizeOf e).run P w = .ok 1 w := by simp [sizeOf, typeInfo, Sem.run_bind, hq, h1]
    simp only [Sem.run_bind, run_underlying ht, Result.andThen_ok, Std.Legacy.Range.forIn_eq_forIn_range', Std.Legacy.Range.size, hsz]
    rw [run_forIn_all _ (fun i => xs.getD i 0 == ys.getD i 0)]
    · simp only [Nat.sub_zero, Nat.add_sub_cancel, Nat.div_one]
      rw [hall]
      cases decide (xs = ys) <;> rfl
    · intro k hk s
      simp at hk
      have a1 : (xs.map (Value.int .i64)).toArray[k]? = some (.int .i64 (xs.getD k 0)) := by simp [show k < xs.length by omega]
      have a2 : (ys.map (Value.int .i64)).toArray[k]? = some (.int .i64 (ys.getD k 0)) := by simp [show k < ys.length by omega]
      have p1 : (part e (xs.map (Value.int .i64)).toArray (k * 1)).run P w = .ok (.int .i64 (xs.getD k 0)) w := by simp [part, hagg, a1, Nat.mul_one, Sem.run_bind]
      have p2 : (part e (ys.map (Value.int .i64)).toArray (k * 1)).run P w = .ok (.int .i64 (ys.getD k 0)) w := by simp [part, hagg, a2, Nat.mul_one, Sem.run_bind]
      simp only [Sem.run_bind, p1, p2, Result.andThen_ok, hcell k (by omega)]
      cases xs.getD k 0 == ys.getD k 0 <;> rfl

/-- A part of a value: one cell, or many. -/
def PartI (P : Program) (t : TypeId) (n d : Nat) : Prop :=
  ∀ (xs ys : List Int) (o : Nat), o + n ≤ xs.length → o + n ≤ ys.length → ∀ w, ∃ a b, (part t (xs.map (Value.int .i64)).toArray o).run P w = .ok a w ∧ (part t (ys.map (Value.int .i64)).toArray o).run P w = .ok b w ∧
    (Op.equalIn d t a b).run P w = .ok (decide ((xs.drop o).take n = (ys.drop o).take n)) w
theorem partI_int {P : Program} {e : TypeId} {d : Nat} (he : P.underlying e = some (.int .i64)) : PartI P e 1 (d + 1) := by
  intro xs ys o hx hy w
  have hagg : ∀ w, (isAgg e).run P w = .ok false w := by
    intro w
    unfold isAgg
    rw [Sem.run_bind, run_underlying he w]
    rfl
  refine ⟨.int .i64 (xs[o]'(by omega)), .int .i64 (ys[o]'(by omega)), ?_, ?_, ?_⟩
  · simp [part, hagg, Sem.run_bind, show o < xs.length by omega]
  · simp [part, hagg, Sem.run_bind, show o < ys.length by omega]
  · have e1 : (xs.drop o).take 1 = [xs[o]'(by omega)] := by rw [List.drop_eq_getElem_cons (by omega)]; rfl
    have e2 : (ys.drop o).take 1 = [ys[o]'(by omega)] := by rw [List.drop_eq_getElem_cons (by omega)]; rfl
    rw [e1, e2]
    simp [Op.equalIn, run_underlying he]
    rw [Bool.eq_iff_iff]; simp
theorem partI_agg {P : Program} {t : TypeId} {n d : Nat} (hd : (match P.underlying t with | some (.struct _) | some (.array _ _) => true | _ => false) = true) (hs : (P.info? t).map (·.size) = some n) (hE : EqI P t n d) : PartI P t n d := by
  intro xs ys o hx hy w
  cases hu : P.underlying t with
  | none => simp [hu] at hd
  | some u =>
    cases hq : P.info? t with
    | none => simp [hq] at hs
    | some i =>
      have h1 : i.size = n := by simpa [hq] using hs
      have hagg : ∀ w, (isAgg t).run P w = .ok true w := by
        intro w
        unfold isAgg
        rw [Sem.run_bind, run_underlying hu w]
        rw [hu] at hd
        cases u <;> simp_all
      have hex : ∀ zs : List Int, (zs.map (Value.int .i64)).toArray.extract o (o + n) = (((zs.drop o).take n).map (Value.int .i64)).toArray := by
        intro zs
        simp [List.map_drop, List.map_take]
      have hp : ∀ zs : List Int, (part t (zs.map (Value.int .i64)).toArray o).run P w = .ok (.agg ((((zs.drop o).take n).map (Value.int .i64)).toArray)) w := by
        intro zs
        rw [← hex]
        simp [part, Sem.run_bind, hagg, sizeOf, typeInfo, hq, h1]
      exact ⟨_, _, hp xs, hp ys, hE _ _ (by simp; omega) (by simp; omega) w⟩

/-- A struct's fields, one behind the other from cell o to cell n. -/
def FieldsI (P : Program) (d : Nat) : List Field → Nat → Nat → Prop
  | [], o, n => o = n
  | f :: l, o, n => f.name ≠ "_" ∧ f.offset = o ∧ ∃ s, PartI P f.type s d ∧ FieldsI P d l (o + s) n
theorem FieldsI.le {P : Program} {d : Nat} : ∀ {l : List Field} {o n : Nat}, FieldsI P d l o n → o ≤ n
  | [], _, _, h => Nat.le_of_eq h
  | _ :: _, o, _, ⟨_, _, s, _, h⟩ => Nat.le_trans (Nat.le_add_right o s) (FieldsI.le h)
theorem eqI_struct {P : Program} {t : TypeId} {n d : Nat} {l : List Field} (ht : P.underlying t = some (.struct l.toArray)) (hst : P.stoodInHeld t = false) (hF : FieldsI P d l 0 n) : EqI P t n (d + 1) := by
  intro xs ys hx hy w
  have hloop : ∀ (l : List Field) (o : Nat), FieldsI P d l o n → (forIn l ((none, ()) : Option Bool × PUnit) (fun f __s => do
      if f.name ≠ "_" then do
        let __do_lift ← part f.type (xs.map (Value.int .i64)).toArray f.offset
        let __do_lift_1 ← part f.type (ys.map (Value.int .i64)).toArray f.offset
        let __do_lift ← Op.equalIn d f.type __do_lift __do_lift_1
        if (!__do_lift) = true then pure (ForInStep.done (some false, ())) else do
          pure (ForInStep.yield (none, ()))
      else do
        pure (ForInStep.yield (none, ())) : Field → Option Bool × PUnit → Sem (ForInStep (Option Bool × PUnit)))).run P w = .ok (if xs.drop o = ys.drop o then (none, ()) else (some false, ())) w := by
    intro l
    induction l with
    | nil =>
      intro o h
      have h : o = n := h
      subst h
      rw [List.drop_of_length_le (by omega), List.drop_of_length_le (by omega)]
      simp
    | cons f l ih =>
      rintro o ⟨hn, ho, s, hp, hr⟩
      have hle := hr.le
      obtain ⟨a, b, e1, e2, e3⟩ := hp xs ys o (by omega) (by omega) w
      have ih := ih _ hr
      rw [List.forIn_cons]
      simp only [Sem.run_bind, ho, hn, ne_eq, not_false_eq_true, if_true, e1, e2, e3, Result.andThen_ok]
      by_cases hd : (xs.drop o).take s = (ys.drop o).take s
      · have e : (xs.drop o = ys.drop o) ↔ (xs.drop (o + s) = ys.drop (o + s)) := by
          constructor
          · intro h; rw [← List.drop_drop, ← List.drop_drop, h]
          · intro h
            rw [← List.drop_drop, ← List.drop_drop] at h
            rw [← List.take_append_drop s (xs.drop o), ← List.take_append_drop s (ys.drop o), hd, h]
        simp only [hd, decide_true, Bool.not_true, Bool.false_eq_true, if_false, Sem.run_pure, Result.andThen_ok]
        rw [ih]
        simp only [e]
      · have e : ¬ (xs.drop o = ys.drop o) := fun h => hd (by rw [h])
        simp only [hd, decide_false, Bool.not_false, if_true, Sem.run_pure, Result.andThen_ok, e, if_false]
  have hl := hloop l 0 hF
  rw [List.drop_zero, List.drop_zero] at hl
  have hprog : (program : Sem Program).run P w = .ok P w := rfl
  unfold Op.equalIn
  simp only [Sem.run_bind, run_underlying ht, Result.andThen_ok, hprog, hst, Bool.false_eq_true, if_false, List.forIn_toArray, hl]
  by_cases h : xs = ys
  · simp [h]
  · simp [h]

/-- The walk's own == and !=. -/
theorem run_eql_I {P : Program} {t : TypeId} {n : Nat} (hE : EqI P t n 10000) (xs ys : List Int) (hx : xs.length = n) (hy : ys.length = n) (w : World) :
    (binOp .eql t (.agg (xs.map (Value.int .i64)).toArray) (.agg (ys.map (Value.int .i64)).toArray)).run P w = .ok (.bool (decide (xs = ys))) w := by
  simp only [binOp]
  simp [Op.equal, Op.maxDepth, hE xs ys hx hy w]
theorem run_neq_I {P : Program} {t : TypeId} {n : Nat} (hE : EqI P t n 10000) (xs ys : List Int) (hx : xs.length = n) (hy : ys.length = n) (w : World) :
    (binOp .neq t (.agg (xs.map (Value.int .i64)).toArray) (.agg (ys.map (Value.int .i64)).toArray)).run P w = .ok (.bool (!decide (xs = ys))) w := by
  simp only [binOp]
  simp [Op.equal, Op.maxDepth, hE xs ys hx hy w]
theorem guard_eql_I {P : Program} {t : TypeId} (h : P.eqGuardType P.depth t = false) (x y : Operand) (u v : Array Value) (w : World) : (eqGuard .eql t x y (.agg u) (.agg v)).run P w = .ok () w := by
  simp [eqGuard, Sem.run_bind, h]
theorem guard_neq_I {P : Program} {t : TypeId} (h : P.eqGuardType P.depth t = false) (x y : Operand) (u v : Array Value) (w : World) : (eqGuard .neq t x y (.agg u) (.agg v)).run P w = .ok () w := by
  simp [eqGuard, Sem.run_bind, h]
end Go.Proofs.Ytmhaomoohacjjaa
