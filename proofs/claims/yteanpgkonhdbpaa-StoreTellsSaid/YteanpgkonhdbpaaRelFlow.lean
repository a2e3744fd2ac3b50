/- A region that draws its order, where each operation yields a value that stands in a relation to the world (stable under new blocks), out of the values that it waits for: in whatever order, all relations hold at the end. No condition. -/
import Derived.Test.YteanpgkonhdbpaaPend
namespace Go.Proofs.Yteanpgkonhdbpaa
open Go.RowKit

section
variable {P : Program} {ops : Array Oper} {Q : Exit → Act → World → Prop} {md : Region.Mode}
/-- What holds while some operations have been carried out. -/
structure RelInv (ops : Array Oper) (d : Nat → Nat) (Φ : Nat → Value → World → Prop) (a0 : Act) (w0 : World) (listed : Array Bool) (a : Act) (w : World) : Prop where
  at_ : ∀ i, i < ops.size → listed.getD i true = true → Φ i (a.tmps.getD (d i) undef) w
  oth : ∀ k, (∀ j, j < ops.size → d j ≠ k) → a.tmps.getD k undef = a0.tmps.getD k undef
  size : a.tmps.size = a0.tmps.size
  defers : a.defers = a0.defers
  keep : Keep [] w0 w
theorem getD_setB {l : Array Bool} {i j : Nat} (h : (l.setIfInBounds i true).getD j true = true) : j = i ∨ l.getD j true = true := by
  by_cases e : i = j
  · exact .inl e.symm
  · rw [getD_set_ne true e] at h
    exact .inr h
theorem getD_unset {l : Array Bool} {i j : Nat} (h : (l.setIfInBounds i true).getD j true = false) : j ≠ i ∧ l.getD j true = false := by
  by_cases e : i = j
  · subst e
    rcases Nat.lt_or_ge i l.size with h' | h'
    · simp [Array.getD, h'] at h
    · simp [Array.getD, Nat.not_lt.2 h'] at h
  · rw [getD_set_ne true e] at h
    exact ⟨fun h => e h.symm, h⟩
theorem wpAny_rel {d : Nat → Nat} {Φ : Nat → Value → World → Prop} {a0 : Act} {w0 : World}
    (hst : ∀ i v w w', Φ i v w → Keep [] w w' → Φ i v w')
    (_hdst : ∀ i o, ops[i]? = some o → o.dst = some (d i))
    (hinj : ∀ i j, i < ops.size → j < ops.size → d i = d j → i = j)
    (hsz : ∀ i, i < ops.size → d i < a0.tmps.size)
    (hdep : ∀ i o e, ops[i]? = some o → e ∈ o.after → Region.binds md e = true → e.on < i)
    (hop : ∀ i o a w, ops[i]? = some o → Keep [] w0 w → (∀ e ∈ o.after, Region.binds md e = true → Φ e.on (a.tmps.getD (d e.on) undef) w) → (∀ k, (∀ j, j < ops.size → d j ≠ k) → a.tmps.getD k undef = a0.tmps.getD k undef) →
      wpOp P ops Q i (fun a' w' => ∃ v, a' = a.put (some (d i)) v ∧ Keep [] w w' ∧ Φ i v w') a w)
    (hend : ∀ a w, RelInv ops d Φ a0 w0 (Array.replicate ops.size true) a w → Q .normal a w) :
    ∀ (fuel : Nat) (L : List Nat) (listed : Array Bool) (a : Act) (w : World), listed.size = ops.size → L.Nodup → (∀ i, i < ops.size → listed.getD i true = false → i ∈ L) → L.length ≤ fuel →
      RelInv ops d Φ a0 w0 listed a w → wpAny P md ops Q fuel listed a w := by
  have hfin : ∀ (listed : Array Bool) (a : Act) (w : World), listed.size = ops.size → (∀ i, i < ops.size → listed.getD i true = true) → RelInv ops d Φ a0 w0 listed a w → Q .normal a w := fun listed a w _ hall hI =>
    hend a w ⟨fun i hi _ => hI.at_ i hi (hall i hi), hI.oth, hI.size, hI.defers, hI.keep⟩
  have hnone : ∀ (listed : Array Bool), listed.size = ops.size → Region.ready md ops listed = [] → ∀ i, i < ops.size → listed.getD i true = true := by
    intro listed hls hr i
    induction i using Nat.strongRecOn with
    | _ i ih =>
      intro hi
      cases hli : listed.getD i true with
      | true => rfl
      | false =>
        exfalso
        have hm : i ∈ Region.ready md ops listed := by
          refine mem_ready.2 ⟨hli, ops[i], Array.getElem?_eq_getElem hi, fun e he hb => ?_⟩
          have h1 := hdep i ops[i] e (Array.getElem?_eq_getElem hi) he hb
          have h2 := ih e.on h1 (by omega)
          have h3 : e.on < listed.size := by omega
          simp [Array.getD, h3] at h2 ⊢
          exact h2
        rw [hr] at hm
        cases hm
  intro fuel
  induction fuel with
  | zero =>
    intro L listed a w hls hnd hL hlen hI
    have hall : ∀ i, i < ops.size → listed.getD i true = true := fun i hi => by
      cases h : listed.getD i true with
      | true => rfl
      | false =>
        have := hL i hi h
        have hL0 : L = [] := List.length_eq_zero_iff.1 (by omega)
        rw [hL0] at this
        cases this
    refine ⟨?_, hfin listed a w hls hall hI⟩
    cases hr : Region.ready md ops listed with
    | nil => rfl
    | cons j l =>
      have hj : j ∈ Region.ready md ops listed := by rw [hr]; simp
      obtain ⟨h1, o, ho, _⟩ := mem_ready.1 hj
      rw [hall j (Array.getElem?_eq_some_iff.1 ho).1] at h1
      cases h1
  | succ fuel ih =>
    intro L listed a w hls hnd hL hlen hI
    refine ⟨fun hr => hfin listed a w hls (hnone listed hls hr) hI, fun i hi => ?_⟩
    obtain ⟨hun, o, ho, hdeps⟩ := mem_ready.1 hi
    have hi' := (Array.getElem?_eq_some_iff.1 ho).1
    refine wpOp_mono (fun a' w' hp => ?_) (hop i o a w ho hI.keep (fun e he hb => ?_) hI.oth)
    · obtain ⟨v, rfl, hk, hv⟩ := hp
      have hiL := hL i hi' hun
      refine ih (L.erase i) (listed.setIfInBounds i true) _ w' (by simpa using hls) (hnd.erase i) (fun j hj hjl => ?_) (by rw [List.length_erase_of_mem hiL]; omega) ⟨fun j hj hjl => ?_, fun k hk' => ?_, ?_, hI.defers, hI.keep.then hk⟩
      · obtain ⟨h1, h2⟩ := getD_unset hjl
        exact (List.mem_erase_of_ne h1).2 (hL j hj h2)
      · by_cases e : j = i
        · subst e
          have : d j < a.tmps.size := by rw [hI.size]; exact hsz j hj
          simp only [Act.put]
          rw [show (a.tmps.setIfInBounds (d j) v).getD (d j) undef = v by simp [Array.getD, this]]
          exact hv
        · have hne : d i ≠ d j := fun h => e (hinj i j hi' hj h).symm
          have h1 := hst j _ w w' (hI.at_ j hj ((getD_setB hjl).resolve_left e)) hk
          simp only [Act.put]
          rwa [show (a.tmps.setIfInBounds (d i) v).getD (d j) undef = a.tmps.getD (d j) undef by
            simp only [Array.getD_eq_getD_getElem?, Array.getElem?_setIfInBounds_ne hne]]
      · have hne : d i ≠ k := hk' i hi'
        simp only [Act.put]
        rw [show (a.tmps.setIfInBounds (d i) v).getD k undef = a.tmps.getD k undef by
          simp only [Array.getD_eq_getD_getElem?, Array.getElem?_setIfInBounds_ne hne]]
        exact hI.oth k hk'
      · simp only [Act.put, Array.size_setIfInBounds]
        exact hI.size
    · have h1 := hdep i o e ho he hb
      have h2 := hdeps e he hb
      refine hI.at_ e.on (by omega) ?_
      have h3 : e.on < listed.size := by omega
      simp [Array.getD, h3] at h2 ⊢
      exact h2
theorem wp_region_rel {id : Nat} {l : List Oper} {a0 : Act} {w : World} {d : Nat → Nat} {Φ : Nat → Value → World → Prop} (hm : P.follows .mixedOrders = true)
    (hst : ∀ i v w w', Φ i v w → Keep [] w w' → Φ i v w')
    (hdst : ∀ i o, l.toArray[i]? = some o → o.dst = some (d i))
    (hinj : ∀ i j, i < l.toArray.size → j < l.toArray.size → d i = d j → i = j)
    (hsz : ∀ i, i < l.toArray.size → d i < a0.tmps.size)
    (hdep : ∀ i o e, l.toArray[i]? = some o → e ∈ o.after → Region.binds .any e = true → e.on < i)
    (hop : ∀ i o a w', l.toArray[i]? = some o → Keep [] w w' → (∀ e ∈ o.after, Region.binds .any e = true → Φ e.on (a.tmps.getD (d e.on) undef) w') → (∀ k, (∀ j, j < l.toArray.size → d j ≠ k) → a.tmps.getD k undef = a0.tmps.getD k undef) →
      wpOp P l.toArray Q i (fun a' w'' => ∃ v, a' = a.put (some (d i)) v ∧ Keep [] w' w'' ∧ Φ i v w'') a w')
    (hend : ∀ a w', RelInv l.toArray d Φ a0 w (Array.replicate l.toArray.size true) a w' → Q .normal a w') : (Code.region id l.toArray true).wp P Q a0 w := by
  refine wp_region_any hm (wpAny_rel (w0 := w) hst hdst hinj hsz hdep hop hend _ (List.range l.toArray.size) _ _ _ (by simp) List.nodup_range (fun i hi _ => List.mem_range.2 hi) (by simp) ⟨fun i hi h => ?_, fun _ _ => rfl, rfl, rfl, (Keep.refl _ _).drew⟩)
  rw [getD_in (by simpa using hi) (getD_replicate_false _ _)] at h
  cases h
/-- Each operation writes its own slot, and waits for earlier ones alone. -/
def relB (l : List Oper) (d : Nat → Nat) : Bool := (List.range l.length).all (fun i => match l[i]? with | some o => o.dst == some (d i) && o.after.all (fun e => !Region.binds .any e || decide (e.on < i)) | none => true)
theorem wp_region_relB {id : Nat} {l : List Oper} {a0 : Act} {w : World} (d : Nat → Nat) (Φ : Nat → Value → World → Prop) (hm : P.follows .mixedOrders = true) (hB : relB l d = true)
    (hst : ∀ i v w w', Φ i v w → Keep [] w w' → Φ i v w')
    (hinj : ∀ i j, i < l.length → j < l.length → d i = d j → i = j)
    (hsz : ∀ i, i < l.length → d i < a0.tmps.size)
    (hop : ∀ i o a w', l[i]? = some o → Keep [] w w' → (∀ e ∈ o.after, Region.binds .any e = true → Φ e.on (a.tmps.getD (d e.on) undef) w') → (∀ k, (∀ j, j < l.length → d j ≠ k) → a.tmps.getD k undef = a0.tmps.getD k undef) →
      wpOp P l.toArray Q i (fun a' w'' => ∃ v, a' = a.put (some (d i)) v ∧ Keep [] w' w'' ∧ Φ i v w'') a w')
    (hend : ∀ a w', RelInv l.toArray d Φ a0 w (Array.replicate l.toArray.size true) a w' → Q .normal a w') : (Code.region id l.toArray true).wp P Q a0 w := by
  have key : ∀ (i : Nat) (o : Oper), l.toArray[i]? = some o → o.dst = some (d i) ∧ ∀ e ∈ o.after, Region.binds .any e = true → e.on < i := fun i o ho => by
    have ho' : l[i]? = some o := by simpa using ho
    have hi := (List.getElem?_eq_some_iff.1 ho').1
    unfold relB at hB
    have h1 := List.all_eq_true.1 hB i (List.mem_range.2 hi)
    rw [ho'] at h1
    simp only [Bool.and_eq_true, beq_iff_eq, Array.all_eq_true', Bool.or_eq_true, Bool.not_eq_true', decide_eq_true_eq] at h1
    refine ⟨h1.1, fun e he hb => ?_⟩
    rcases h1.2 e he with h2 | h2
    · rw [hb] at h2; cases h2
    · exact h2
  refine wp_region_rel hm hst (fun i o ho => (key i o ho).1) (fun i j hi hj => hinj i j (by simpa using hi) (by simpa using hj)) (fun i hi => hsz i (by simpa using hi)) (fun i o e ho he hb => (key i o ho).2 e he hb)
    (fun i o a w' ho hk hd hoth => hop i o a w' (by simpa using ho) hk hd (fun k hk' => hoth k (fun j hj => hk' j (by simpa using hj)))) hend
theorem getD_list {t : Array Value} {k : Nat} : t.getD k undef = (t.toList[k]?).getD undef := by simp [Array.getD_eq_getD_getElem?]
theorem list_eq_window {t t0 : List Value} {off n : Nat} (hl : t.length = t0.length) (hs : off + n ≤ t0.length) (ho : ∀ k, (k < off ∨ off + n ≤ k) → (t[k]?).getD undef = (t0[k]?).getD undef) :
    t = t0.take off ++ (t.drop off).take n ++ t0.drop (off + n) := by
  have get : ∀ k, (k < off ∨ off + n ≤ k) → t[k]? = t0[k]? := fun k hk => by
    have h := ho k hk
    rcases Nat.lt_or_ge k t.length with h1 | h1
    · have h2 : k < t0.length := by omega
      rw [List.getElem?_eq_getElem h1, List.getElem?_eq_getElem h2] at h ⊢
      simpa using h
    · rw [List.getElem?_eq_none h1, List.getElem?_eq_none (by omega)]
  apply List.ext_getElem?
  intro k
  rcases Nat.lt_or_ge k off with h1 | h1
  · rw [List.append_assoc, List.getElem?_append_left (by rw [List.length_take]; omega), List.getElem?_take_of_lt h1]
    exact get k (.inl h1)
  · rw [List.append_assoc, List.getElem?_append_right (by rw [List.length_take]; omega), List.length_take, Nat.min_eq_left (by omega)]
    rcases Nat.lt_or_ge k (off + n) with h2 | h2
    · rw [List.getElem?_append_left (by rw [List.length_take, List.length_drop]; omega), List.getElem?_take_of_lt (by omega), List.getElem?_drop]
      congr 1
      omega
    · rw [List.getElem?_append_right (by rw [List.length_take, List.length_drop]; omega), List.length_take, List.length_drop, List.getElem?_drop, Nat.min_eq_left (by omega)]
      rw [get k (.inr h2)]
      congr 1
      omega
/-- The same, for operations that write slots one behind the other: at the end these hold values in their relations, all others are as they were. -/
theorem wp_region_relW {id : Nat} {l : List Oper} {a0 : Act} {w : World} (off cnt m : Nat) (hcnt : l.length = cnt) (hm' : off + cnt = m) (Φ : Nat → Value → World → Prop) (hm : P.follows .mixedOrders = true) (hB : relB l (fun i => off + i) = true)
    (hst : ∀ i v w w', Φ i v w → Keep [] w w' → Φ i v w')
    (hsz : m ≤ a0.tmps.size)
    (hop : ∀ i o a w', l[i]? = some o → Keep [] w w' → (∀ e ∈ o.after, Region.binds .any e = true → Φ e.on (a.tmps.getD (off + e.on) undef) w') → (∀ k, (k < off ∨ m ≤ k) → a.tmps.getD k undef = a0.tmps.getD k undef) →
      wpOp P l.toArray Q i (fun a' w'' => ∃ v, a' = a.put (some (off + i)) v ∧ Keep [] w' w'' ∧ Φ i v w'') a w')
    (hend : ∀ (xs : List Value) w', xs.length = cnt → (∀ i, i < cnt → Φ i ((xs[i]?).getD undef) w') → Keep [] w w' → Q .normal { a0 with tmps := (a0.tmps.toList.take off ++ xs ++ a0.tmps.toList.drop m).toArray } w') : (Code.region id l.toArray true).wp P Q a0 w := by
  subst hcnt
  subst hm'
  refine wp_region_relB (fun i => off + i) Φ hm hB hst (fun i j _ _ h => by omega) (fun i hi => by omega) (fun i o a w' ho hk hd hoth => hop i o a w' ho hk hd (fun k hk' => hoth k (fun j hj => by omega))) (fun a w' hI => ?_)
  have hls : l.toArray.size = l.length := by simp
  have hlen : a.tmps.toList.length = a0.tmps.toList.length := by simpa using hI.size
  have hA : a.tmps.toList = a0.tmps.toList.take off ++ (a.tmps.toList.drop off).take l.length ++ a0.tmps.toList.drop (off + l.length) :=
    list_eq_window hlen (by simpa using hsz) (fun k hk => by rw [← getD_list, ← getD_list]; exact hI.oth k (fun j hj => by rw [hls] at hj; omega))
  have hx : ((a.tmps.toList.drop off).take l.length).length = l.length := by
    rw [List.length_take, List.length_drop, hlen]
    have : a0.tmps.toList.length = a0.tmps.size := by simp
    omega
  have := hend ((a.tmps.toList.drop off).take l.length) w' hx (fun i hi => ?_) hI.keep
  · rw [← hA] at this
    have ha : a = { a0 with tmps := a.tmps.toList.toArray } := by
      have h1 := hI.defers
      cases a
      cases a0
      simp only [Array.toArray_toList] at h1 ⊢
      subst h1
      rfl
    rw [ha]
    exact this
  · have h1 := hI.at_ i (by rw [hls]; exact hi) (by simp [Array.getD, hi])
    rw [getD_list] at h1
    rw [List.getElem?_take_of_lt hi, List.getElem?_drop]
    exact h1
end
section
variable {P : Program} {ops : Array Oper} {Q : Exit → Act → World → Prop} {a : Act} {w : World} {K : Act → World → Prop} {dst : Option Tmp} {op : Op} {tyy : TypeId} {pos : String} {after : Array Edge} {gd : Option (Nat × Bool)}
theorem yielded_of {j d : Nat} {o : Oper} {b : Bool} (ho : ops[j]? = some o) (hd : o.dst = some d) (hv : a.tmps.getD d undef = .bool b) : yielded ops a.tmps j = some b := by
  have h1 : a.tmps[d]? = some (.bool b) := by
    rw [Array.getD_eq_getD_getElem?] at hv
    cases h : a.tmps[d]? with
    | none => rw [h] at hv; cases hv
    | some v => rw [h] at hv; exact congrArg some hv
  unfold yielded
  rw [ho]
  simp only [Option.bind_some, hd, h1]
theorem wanted_of {j d : Nat} {o : Oper} {b : Bool} (hg : o.guard = some (j, b)) (hd : (ops[j]?).bind (·.dst) = some d) (hv : a.tmps.getD d undef = .bool b) : Region.wanted o (yielded ops a.tmps) = true := by
  have h : yielded ops a.tmps j = some b := by
    cases ho : ops[j]? with
    | none => rw [ho] at hd; cases hd
    | some oj => rw [ho] at hd; exact yielded_of ho hd hv
  simp [Region.wanted, hg, h]
theorem op_mov {v : Value} (i : Nat) {src : Operand} (hi : ops[i]? = some ⟨dst, .move src, tyy, pos, after, gd⟩) (hw : Region.wanted ⟨dst, .move src, tyy, pos, after, gd⟩ (yielded ops a.tmps) = true)
    (hv : a.eval src = v) (h : K (a.put dst v) w) : wpOp P ops Q i K a w :=
  op_run i hi hw (by unfold execOp; simp only [hv, Sem.run_pure]) h
end
end Go.Proofs.Yteanpgkonhdbpaa
