/- A region that draws its order, where each operation yields a value that stands in a relation to the world (stable under new blocks), out of the values that it waits for: in whatever order, all relations hold at the end. No condition. The law's own table (layer 53): pad, table. Condition: the text is no longer than 1000000000 bytes. All three tables as a text (sheet.Text), in whatever order its parts are laid. Condition: the table of math/bits lies where the program's text lays it. -/
import Derived.Test.YteocldlglklnjaaDoorPend
import Derived.Test.YteocldlglklnjaaDoorShTab
import Derived.Test.YteocldlglklnjaaDoorShLaw
import Derived.Test.YteocldlglklnjaaDoorCertF
namespace Go.Proofs.YteocldlglklnjaaDoor
open Go.RowKit

section
variable {P : Program} {ops : Array Oper} {Q : Exit → Act → World → Prop} {md : Region.Mode}
/-- What holds while some operations have been carried out. -/
structure RelInv (ops : Array Oper) (d : Nat → Nat) (Φ : Nat → Value → World → Prop) (a0 : Act) (w0 : World) (listed : Array Bool) (a : Act) (w : World) : Prop where
  at_ : ∀ i, i < ops.size → listed.getD i true = true → Φ i (a.tmps.getD (d i) undef) w
  oth : ∀ k, (∀ j, j < ops.size → d j ≠ k) → a.tmps.getD k undef = a0.tmps.getD k undef
  size : a.tmps.size = a0.tmps.size
  defers : a.defers = a0.defers
  keep : Keep [] w0 w
theorem getD_setB {l : Array Bool} {i j : Nat} (h : (l.setIfInBounds i true).getD j true = true) : j = i ∨ l.getD j true = true := by
  by_cases e : i = j
  · exact .inl e.symm
  · rw [getD_set_ne true e] at h
    exact .inr h
theorem getD_unset {l : Array Bool} {i j : Nat} (h : (l.setIfInBounds i true).getD j true = false) : j ≠ i ∧ l.getD j true = false := by
  by_cases e : i = j
  · subst e
    rcases Nat.lt_or_ge i l.size with h' | h'
    · simp [Array.getD, h'] at h
    · simp [Array.getD, Nat.not_lt.2 h'] at h
  · rw [getD_set_ne true e] at h
    exact ⟨fun h => e h.symm, h⟩
theorem wpAny_rel {d : Nat → Nat} {Φ : Nat → Value → World → Prop} {a0 : Act} {w0 : World}
    (hst : ∀ i v w w', Φ i v w → Keep [] w w' → Φ i v w')
    (hdst : ∀ i o, ops[i]? = some o → o.dst = some (d i))
    (hinj : ∀ i j, i < ops.size → j < ops.size → d i = d j → i = j)
    (hsz : ∀ i, i < ops.size → d i < a0.tmps.size)
    (hdep : ∀ i o e, ops[i]? = some o → e ∈ o.after → Region.binds md e = true → e.on < i)
    (hop : ∀ i o a w, ops[i]? = some o → Keep [] w0 w → (∀ e ∈ o.after, Region.binds md e = true → Φ e.on (a.tmps.getD (d e.on) undef) w) → (∀ k, (∀ j, j < ops.size → d j ≠ k) → a.tmps.getD k undef = a0.tmps.getD k undef) →
      wpOp P ops Q i (fun a' w' => ∃ v, a' = a.put (some (d i)) v ∧ Keep [] w w' ∧ Φ i v w') a w)
    (hend : ∀ a w, RelInv ops d Φ a0 w0 (Array.replicate ops.size true) a w → Q .normal a w) :
    ∀ (fuel : Nat) (L : List Nat) (listed : Array Bool) (a : Act) (w : World), listed.size = ops.size → L.Nodup → (∀ i, i < ops.size → listed.getD i true = false → i ∈ L) → L.length ≤ fuel →
      RelInv ops d Φ a0 w0 listed a w → wpAny P md ops Q fuel listed a w := by
  have hfin : ∀ (listed : Array Bool) (a : Act) (w : World), listed.size = ops.size → (∀ i, i < ops.size → listed.getD i true = true) → RelInv ops d Φ a0 w0 listed a w → Q .normal a w := fun listed a w _ hall hI =>
    hend a w ⟨fun i hi _ => hI.at_ i hi (hall i hi), hI.oth, hI.size, hI.defers, hI.keep⟩
  have hnone : ∀ (listed : Array Bool), listed.size = ops.size → Region.ready md ops listed = [] → ∀ i, i < ops.size → listed.getD i true = true := by
    intro listed hls hr i
    induction i using Nat.strongRecOn with
    | _ i ih =>
      intro hi
      cases hli : listed.getD i true with
      | true => rfl
      | false =>
        exfalso
        have hm : i ∈ Region.ready md ops listed := by
          refine mem_ready.2 ⟨hli, ops[i], Array.getElem?_eq_getElem hi, fun e he hb => ?_⟩
          have h1 := hdep i ops[i] e (Array.getElem?_eq_getElem hi) he hb
          have h2 := ih e.on h1 (by omega)
          have h3 : e.on < listed.size := by omega
          simp [Array.getD, h3] at h2 ⊢
          exact h2
        rw [hr] at hm
        cases hm
  intro fuel
  induction fuel with
  | zero =>
    intro L listed a w hls hnd hL hlen hI
    have hall : ∀ i, i < ops.size → listed.getD i true = true := fun i hi => by
      cases h : listed.getD i true with
      | true => rfl
      | false =>
        have := hL i hi h
        have hL0 : L = [] := List.length_eq_zero_iff.1 (by omega)
        rw [hL0] at this
        cases this
    refine ⟨?_, hfin listed a w hls hall hI⟩
    cases hr : Region.ready md ops listed with
    | nil => rfl
    | cons j l =>
      have hj : j ∈ Region.ready md ops listed := by rw [hr]; simp
      obtain ⟨h1, o, ho, _⟩ := mem_ready.1 hj
      rw [hall j (Array.getElem?_eq_some_iff.1 ho).1] at h1
      cases h1
  | succ fuel ih =>
    intro L listed a w hls hnd hL hlen hI
    refine ⟨fun hr => hfin listed a w hls (hnone listed hls hr) hI, fun i hi => ?_⟩
    obtain ⟨hun, o, ho, hdeps⟩ := mem_ready.1 hi
    have hi' := (Array.getElem?_eq_some_iff.1 ho).1
    refine wpOp_mono (fun a' w' hp => ?_) (hop i o a w ho hI.keep (fun e he hb => ?_) hI.oth)
    · obtain ⟨v, rfl, hk, hv⟩ := hp
      have hiL := hL i hi' hun
      refine ih (L.erase i) (listed.setIfInBounds i true) _ w' (by simpa using hls) (hnd.erase i) (fun j hj hjl => ?_) (by rw [List.length_erase_of_mem hiL]; omega) ⟨fun j hj hjl => ?_, fun k hk' => ?_, ?_, hI.defers, hI.keep.then hk⟩
      · obtain ⟨h1, h2⟩ := getD_unset hjl
        exact (List.mem_erase_of_ne h1).2 (hL j hj h2)
      · by_cases e : j = i
        · subst e
          have : d j < a.tmps.size := by rw [hI.size]; exact hsz j hj
          simp only [Act.put]
          rw [show (a.tmps.setIfInBounds (d j) v).getD (d j) undef = v by simp [Array.getD, this]]
          exact hv
        · have hne : d i ≠ d j := fun h => e (hinj i j hi' hj h).symm
          have h1 := hst j _ w w' (hI.at_ j hj ((getD_setB hjl).resolve_left e)) hk
          simp only [Act.put]
          rwa [show (a.tmps.setIfInBounds (d i) v).getD (d j) undef = a.tmps.getD (d j) undef by
            simp only [Array.getD_eq_getD_getElem?, Array.getElem?_setIfInBounds_ne hne]]
      · have hne : d i ≠ k := hk' i hi'
        simp only [Act.put]
        rw [show (a.tmps.setIfInBounds (d i) v).getD k undef = a.tmps.getD k undef by
          simp only [Array.getD_eq_getD_getElem?, Array.getElem?_setIfInBounds_ne hne]]
        exact hI.oth k hk'
      · simp only [Act.put, Array.size_setIfInBounds]
        exact hI.size
    · have h1 := hdep i o e ho he hb
      have h2 := hdeps e he hb
      refine hI.at_ e.on (by omega) ?_
      have h3 : e.on < listed.size := by omega
      simp [Array.getD, h3] at h2 ⊢
      exact h2
theorem wp_region_rel {id : Nat} {l : List Oper} {a0 : Act} {w : World} {d : Nat → Nat} {Φ : Nat → Value → World → Prop} (hm : P.follows .mixedOrders = true)
    (hst : ∀ i v w w', Φ i v w → Keep [] w w' → Φ i v w')
    (hdst : ∀ i o, l.toArray[i]? = some o → o.dst = some (d i))
    (hinj : ∀ i j, i < l.toArray.size → j < l.toArray.size → d i = d j → i = j)
    (hsz : ∀ i, i < l.toArray.size → d i < a0.tmps.size)
    (hdep : ∀ i o e, l.toArray[i]? = some o → e ∈ o.after → Region.binds .any e = true → e.on < i)
    (hop : ∀ i o a w', l.toArray[i]? = some o → Keep [] w w' → (∀ e ∈ o.after, Region.binds .any e = true → Φ e.on (a.tmps.getD (d e.on) undef) w') → (∀ k, (∀ j, j < l.toArray.size → d j ≠ k) → a.tmps.getD k undef = a0.tmps.getD k undef) →
      wpOp P l.toArray Q i (fun a' w'' => ∃ v, a' = a.put (some (d i)) v ∧ Keep [] w' w'' ∧ Φ i v w'') a w')
    (hend : ∀ a w', RelInv l.toArray d Φ a0 w (Array.replicate l.toArray.size true) a w' → Q .normal a w') : (Code.region id l.toArray true).wp P Q a0 w := by
  refine wp_region_any hm (wpAny_rel (w0 := w) hst hdst hinj hsz hdep hop hend _ (List.range l.toArray.size) _ _ _ (by simp) List.nodup_range (fun i hi _ => List.mem_range.2 hi) (by simp) ⟨fun i hi h => ?_, fun _ _ => rfl, rfl, rfl, (Keep.refl _ _).drew⟩)
  rw [getD_in (by simpa using hi) (getD_replicate_false _ _)] at h
  cases h
/-- Each operation writes its own slot, and waits for earlier ones alone. -/
def relB (l : List Oper) (d : Nat → Nat) : Bool := (List.range l.length).all (fun i => match l[i]? with | some o => o.dst == some (d i) && o.after.all (fun e => !Region.binds .any e || decide (e.on < i)) | none => true)
theorem wp_region_relB {id : Nat} {l : List Oper} {a0 : Act} {w : World} (d : Nat → Nat) (Φ : Nat → Value → World → Prop) (hm : P.follows .mixedOrders = true) (hB : relB l d = true)
    (hst : ∀ i v w w', Φ i v w → Keep [] w w' → Φ i v w')
    (hinj : ∀ i j, i < l.length → j < l.length → d i = d j → i = j)
    (hsz : ∀ i, i < l.length → d i < a0.tmps.size)
    (hop : ∀ i o a w', l[i]? = some o → Keep [] w w' → (∀ e ∈ o.after, Region.binds .any e = true → Φ e.on (a.tmps.getD (d e.on) undef) w') → (∀ k, (∀ j, j < l.length → d j ≠ k) → a.tmps.getD k undef = a0.tmps.getD k undef) →
      wpOp P l.toArray Q i (fun a' w'' => ∃ v, a' = a.put (some (d i)) v ∧ Keep [] w' w'' ∧ Φ i v w'') a w')
    (hend : ∀ a w', RelInv l.toArray d Φ a0 w (Array.replicate l.toArray.size true) a w' → Q .normal a w') : (Code.region id l.toArray true).wp P Q a0 w := by
  have key : ∀ (i : Nat) (o : Oper), l.toArray[i]? = some o → o.dst = some (d i) ∧ ∀ e ∈ o.after, Region.binds .any e = true → e.on < i := fun i o ho => by
    have ho' : l[i]? = some o := by simpa using ho
    have hi := (List.getElem?_eq_some_iff.1 ho').1
    unfold relB at hB
    have h1 := List.all_eq_true.1 hB i (List.mem_range.2 hi)
    rw [ho'] at h1
    simp only [Bool.and_eq_true, beq_iff_eq, Array.all_eq_true', Bool.or_eq_true, Bool.not_eq_true', decide_eq_true_eq] at h1
    refine ⟨h1.1, fun e he hb => ?_⟩
    rcases h1.2 e he with h2 | h2
    · rw [hb] at h2; cases h2
    · exact h2
  refine wp_region_rel hm hst (fun i o ho => (key i o ho).1) (fun i j hi hj => hinj i j (by simpa using hi) (by simpa using hj)) (fun i hi => hsz i (by simpa using hi)) (fun i o e ho he hb => (key i o ho).2 e he hb)
    (fun i o a w' ho hk hd hoth => hop i o a w' (by simpa using ho) hk hd (fun k hk' => hoth k (fun j hj => hk' j (by simpa using hj)))) hend
end
end Go.Proofs.YteocldlglklnjaaDoor

namespace Go.Proofs.YteocldlglklnjaaDoor
open Go.RowKit
attribute [local go_sem] Oper.semAt_some

set_option maxRecDepth 100000 in
set_option maxHeartbeats 2000000 in
theorem pad_any (s : ByteArray) (wide : Nat) (w : World) (hs : s.size ≤ 1000000000) (hw : wide ≤ 1000000000) :
    Calls Tryd.prog 52 #[.string s, .int .i64 (wide : Int)] w fun e w' => e = .returned (strOf (List.replicate (wide - s.size) 32 ++ bytesOf s)) ∧ Keep [] w w' := by
  go_enter Tryd.func52, Tryd.ntmps52
  go_wp2
  go_loopw [0] (fun v0 wr => ∃ (S : ByteArray) (p : Nat), v0 = .string S ∧ p ≤ wide - s.size ∧ Hid (bytesOf S = List.replicate p 32 ++ bytesOf s) ∧ w = wr) (fun v0 _ => match v0 with | .string S => wide - S.size | _ => 0)
  case atStart => exact ⟨s, 0, rfl, Nat.zero_le _, show _ = _ from rfl, rfl⟩
  case round =>
    obtain ⟨S, p, rfl, hp, HS, rfl⟩ := hrel
    have hsz : S.size = p + s.size := by rw [← bytesOf_len, HS.out, List.length_append, List.length_replicate, bytesOf_len]
    by_cases hlt : S.size < wide
    · have p1 : decide ((S.size : Int) < (wide : Int)) = true := decide_eq_true (by omega)
      have had : ∀ W, (binOp .add 9 (.string ⟨#[32]⟩) (.string S)).run Tryd.prog W = .ok (strOf ([32] ++ bytesOf S)) W := fun W => run_add_str (P := Tryd.prog) 9 [32] (bytesOf S) (by have := bytesOf_len S; simp; omega) W
      have HN : Hid (bytesOf ⟨([32] ++ bytesOf S).toArray⟩ = List.replicate (p + 1) 32 ++ bytesOf s) := by
        show [32] ++ bytesOf S = _
        rw [HS.out, List.replicate_succ]; rfl
      have hz2 : (⟨([32] ++ bytesOf S).toArray⟩ : ByteArray).size = p + 1 + s.size := by rw [← bytesOf_len, HN.out, List.length_append, List.length_replicate, bytesOf_len]
      have HZ2 := Lib.hid hz2
      have HSZ := Lib.hid hsz
      clear hz2
      go_wp2
      go_roundw
      case rel => exact ⟨_, p + 1, rfl, by omega, HN, trivial⟩
      case measure =>
        have h1 := HZ2.out
        have h2 := HSZ.out
        show wide - (⟨([32] ++ bytesOf S).toArray⟩ : ByteArray).size < wide - S.size
        omega
    · have p1 : decide ((S.size : Int) < (wide : Int)) = false := decide_eq_false (by omega)
      have HE : Hid (Value.string S = strOf (List.replicate (wide - s.size) 32 ++ bytesOf s)) := by
        have hpw : wide - s.size = p := by omega
        show _ = _
        rw [hpw, ← HS.out]
        rfl
      go_wp2
      go_ret
      exact ⟨by rw [← HE.out]; rfl, Keep.refl _ _⟩

set_option maxRecDepth 100000 in
set_option maxHeartbeats 8000000 in
theorem rtable_any (A : Option Addr) (cp nc : Nat) (vs : List Value) (ll : List (List ByteArray)) (w : World) (hA : Reads w 1 A ll.length vs) (hT : TextsAt w vs ll) (hl : ll.length ≤ 100000) (h0 : 0 < ll.length) (hnc : ll[0].length = nc) (hr : ∀ r ∈ ll, r.length ≤ 100)
    (hbound : (tableT ll nc).length ≤ 1000000000) :
    Calls Tryd.prog 29 #[.slice A ll.length cp] w fun e w' => e = .returned (strOf (tableT ll nc)) ∧ Keep [] w w' := by
  have HROW : Hid (∀ j (h : j < ll.length), ∃ b1 o1 Aj cj, A = some ⟨b1, o1, none⟩ ∧ ∀ wr, Keep [] w wr → wr.cell? ⟨b1, o1 + j, none⟩ = some (.slice Aj ll[j].length cj) ∧ TxtAt wr Aj ll[j]) := fun j h => by
    obtain ⟨b1, o1, u, e1, hb1, hu, hc⟩ := hA.at_ h
    obtain ⟨Aj, cj, e2, ht⟩ := hT.at_ j h
    rw [hu] at e2
    cases e2
    exact ⟨b1, o1, Aj, cj, e1, fun wr hk => ⟨(hk.cell (p := ⟨b1, o1 + j, none⟩) hb1 (by simp)).trans hc, ht.keep0 hk⟩⟩
  obtain ⟨bz, oz, Az, cz, ez, hz⟩ := HROW.out 0 h0
  rw [hnc] at hz
  have HZ : Hid (∀ wr, Keep [] w wr → wr.cell? ⟨bz, oz, none⟩ = some (.slice Az nc cz)) := fun wr k => (hz wr k).1
  have HBD := Lib.hid hbound
  have HF2 := Lib.hid hr
  have HPAD := fun s wide w h1 h2 => Lib.hid (pad_any s wide w h1 h2)
  have hn0 : nc ≤ 100 := by rw [← hnc]; exact hr _ (List.getElem_mem h0)
  clear hA hT hz hbound hr hnc
  subst ez
  go_enter Tryd.func29, Tryd.ntmps29
  go_wp2
  go_loopw [3, 4] (fun vo vj wr => ∃ j : Nat, j ≤ ll.length ∧ vj = .int .i64 (j : Int) ∧ vo = strOf ((ll.take j).flatMap (lineT ll nc)) ∧ Keep [] w wr) (fun _ vj _ => ll.length - (intOf vj).toNat)
  case atStart => exact ⟨0, Nat.zero_le _, rfl, rfl, Keep.refl _ _⟩
  case round =>
    obtain ⟨j, hj, rfl, rfl, hk0⟩ := hrel
    by_cases hlt : j < ll.length
    · obtain ⟨b1, o1, Aj, cj, e1, hrow⟩ := HROW.out j hlt
      have e1' : bz = b1 ∧ oz = o1 := by
        injection e1 with e1
        injection e1 with h1 h2
        exact ⟨h1, h2⟩
      obtain ⟨rfl, rfl⟩ := e1'
      have HRW := Lib.hid hrow
      have hpre := fun i hi => tab_prefix ll nc hlt (i := i) hi
      have hwl : ∀ (i : Nat) (t : ByteArray), ll[j][i]? = some t → t.size ≤ wideK ll i := fun i t ht => wide_le ll i _ (List.getElem_mem hlt) t ht
      have hcs := fun i (h : i < ll[j].length) => cellsT_succ ll ll[j] h
      have hln : Hid ((ll.take (j + 1)).flatMap (lineT ll nc) = (ll.take j).flatMap (lineT ll nc) ++ (cellsT ll ll[j] (min ll[j].length nc) ++ [10])) := take_flat (lineT ll nc) ll j hlt
      have p0 : (0 : Int) ≤ (j : Int) := by omega
      have p1 : (j : Int) < (ll.length : Int) := by omega
      have p2 : (0 : Int) < (ll.length : Int) := by omega
      have hr100 := HF2.out _ (List.getElem_mem hlt)
      clear hrow e1
      generalize ll[j] = R at *
      generalize (ll.take j).flatMap (lineT ll nc) = ql at *
      obtain ⟨m, hm⟩ : ∃ m : Nat, min R.length nc = m := ⟨_, rfl⟩
      rw [hm] at hln hpre
      go_wp2
      generalize wr = wo at *
      go_loopw [3, 5] (fun vo vi wr => ∃ i : Nat, i ≤ m ∧ vi = .int .i64 (i : Int) ∧ vo = strOf (ql ++ cellsT ll R i) ∧ Keep [] w wr) (fun _ vi _ => m - (intOf vi).toNat)
      case atStart => exact ⟨0, Nat.zero_le _, rfl, by simp [cellsT], hk0⟩
      case round =>
        clear hk0
        obtain ⟨i, hi, rfl, rfl, hk⟩ := hrel
        have hcj := (HRW.out wr hk).1
        have hcz := HZ.out wr hk
        by_cases hlti : i < m
        · have hiR : i < R.length := by omega
          have hiN : i < nc := by omega
          have q1 : (i : Int) < (R.length : Int) := by omega
          have q2 : (i : Int) < (nc : Int) := by omega
          have q3 : (0 : Int) ≤ (i : Int) := by omega
          have hpr := (hpre (i + 1) (by omega)).length_le
          have hbd := HBD.out
          have hc1 := hcs i hiR
          have hle := hwl i R[i] (List.getElem?_eq_getElem hiR)
          rw [hc1] at hpr
          unfold cellT at hpr hc1
          have hbl : (bytesOf R[i]).length = R[i].size := bytesOf_len _
          simp only [List.length_append, List.length_replicate] at hpr
          obtain ⟨W9, hW9⟩ : ∃ W9, wideK ll i = W9 := ⟨_, rfl⟩
          rw [hW9] at hpr hc1 hle
          have hlq : ql.length + (cellsT ll R i).length ≤ 1000000000 := by omega
          have hlW : W9 ≤ 1000000000 := by omega
          have hlt2 : R[i].size ≤ 1000000000 := by omega
          have HC1 := Lib.hid hc1
          have HW9 := Lib.hid hW9
          obtain ⟨b2, o2, u2, hA2, hb2, hu2, hc2⟩ := (HRW.out w (Keep.refl _ _)).2.rd.at_ hiR
          have e2 : u2 = .string R[i] := by simpa [strsV, List.getElem?_eq_getElem hiR] using hu2.symm
          subst e2
          have HCT : Hid (∀ wr, Keep [] w wr → wr.cell? ⟨b2, o2 + i, none⟩ = some (.string R[i])) := fun wr k => (k.cell (p := ⟨b2, o2 + i, none⟩) hb2 (by simp)).trans hc2
          subst hA2
          clear hpr hpre hwl hcs hbd hc1 hle hbl hu2 hc2 hW9
          generalize R[i] = tx at *
          generalize hgq : ql ++ cellsT ll R i = qi at *
          have hqi : qi.length ≤ 1000000000 := by rw [← hgq, List.length_append]; omega
          have HGQ := Lib.hid hgq
          clear hgq
          go_wp2
          generalize wr = wo2 at *
          go_loopw [6, 7] (fun vw vn wr => ∃ n : Nat, n ≤ ll.length ∧ vn = .int .i64 (n : Int) ∧ vw = .int .i64 (wideK (ll.take n) i : Int) ∧ Keep [] w wr) (fun _ vn _ => ll.length - (intOf vn).toNat)
          case atStart => exact ⟨0, Nat.zero_le _, rfl, rfl, hk⟩
          case round =>
            clear hk hcj hcz
            obtain ⟨n, hn, rfl, rfl, hk⟩ := hrel
            by_cases hltn : n < ll.length
            · obtain ⟨b3, o3, An, cn, e3, hrown⟩ := HROW.out n hltn
              have e3' : bz = b3 ∧ oz = o3 := by
                injection e3 with e3
                injection e3 with h1 h2
                exact ⟨h1, h2⟩
              obtain ⟨rfl, rfl⟩ := e3'
              obtain ⟨hcn, htn⟩ := hrown wr hk
              have HWT := Lib.hid (wideK_take ll hltn i)
              have r0 : (0 : Int) ≤ (n : Int) := by omega
              have r1 : (n : Int) < (ll.length : Int) := by omega
              clear hrown e3
              generalize hLn : ll[n] = L at *
              clear hLn
              generalize hz9 : wideK (ll.take n) i = z at *
              by_cases hiL : i < L.length
              · obtain ⟨b4, o4, u4, hA4, hb4, hu4, hc4⟩ := htn.rd.at_ hiL
                have e4 : u4 = .string L[i] := by simpa [strsV, List.getElem?_eq_getElem hiL] using hu4.symm
                subst e4
                have hws : wideStep i z L = max z L[i].size := by unfold wideStep; rw [List.getElem?_eq_getElem hiL]
                rw [hws] at HWT
                have r2 : (i : Int) < (L.length : Int) := by omega
                clear hu4 hws htn
                subst hA4
                generalize L[i] = ty at *
                by_cases hgt : z < ty.size
                · have r3 : decide ((z : Int) < (ty.size : Int)) = true := decide_eq_true (by omega)
                  have HW2 : Hid (wideK (ll.take (n + 1)) i = ty.size) := HWT.out.trans (by omega)
                  clear HWT
                  go_wp2
                  go_roundw
                  case rel => exact ⟨n + 1, by omega, by go_num, by rw [HW2.out], hk⟩
                  case measure => simp [intOf]; omega
                · have r3 : decide ((z : Int) < (ty.size : Int)) = false := decide_eq_false (by omega)
                  have HW2 : Hid (wideK (ll.take (n + 1)) i = z) := HWT.out.trans (by omega)
                  clear HWT
                  go_wp2
                  go_roundw
                  case rel => exact ⟨n + 1, by omega, by go_num, by rw [HW2.out], hk⟩
                  case measure => simp [intOf]; omega
              · have hws : wideStep i z L = z := by unfold wideStep; rw [List.getElem?_eq_none (by omega)]
                rw [hws] at HWT
                have r2 : decide ((i : Int) < (L.length : Int)) = false := decide_eq_false (by omega)
                clear hws htn
                go_wp2
                go_roundw
                case rel => exact ⟨n + 1, by omega, by go_num, by rw [HWT.out], hk⟩
                case measure => simp [intOf]; omega
            · obtain rfl : n = ll.length := by omega
              have r0 : decide ((ll.length : Int) < (ll.length : Int)) = false := by simp
              rw [List.take_length, HW9.out]
              have hcj := (HRW.out wr hk).1
              have hct := HCT.out wr hk
              have HP := HPAD tx W9 wr hlt2 hlW
              clear HPAD
              by_cases hi0 : i = 0
              · have hg : decide ((0 : Int) < (i : Int)) = false := decide_eq_false (by omega)
                have hg2 : decide (0 < i) = false := decide_eq_false (by omega)
                have HI0 := Lib.hid hi0
                clear hi0
                have had2 : ∀ W, (binOp .add 9 (strOf (qi)) (strOf (List.replicate (W9 - tx.size) 32 ++ bytesOf tx))).run Tryd.prog W = .ok (strOf ((qi) ++ (List.replicate (W9 - tx.size) 32 ++ bytesOf tx))) W := fun W => run_add_str (P := Tryd.prog) 9 (qi) _ (by have := bytesOf_len tx; simp; omega) W
                have HFIN : Hid ((qi) ++ (List.replicate (W9 - tx.size) 32 ++ bytesOf tx) = ql ++ cellsT ll R (i + 1)) := by
                  show _ = _
                  rw [HC1.out, if_pos HI0.out, ← HGQ.out]
                  simp only [List.append_assoc, List.nil_append]
                go_wp2_with fail
                refine HP.out.mono ?_
                rintro e w3 ⟨rfl, k3⟩
                have hk3 := hk.then k3
                clear k3
                go_wp2
                go_roundw
                case rel => exact ⟨i + 1, by omega, by go_num, by rw [← HFIN.out]; try simp, hk3⟩
                case measure => simp [intOf]; omega
              · have hg : decide ((0 : Int) < (i : Int)) = true := decide_eq_true (by omega)
                have hg2 : decide (0 < i) = true := decide_eq_true (by omega)
                have had : ∀ W, (binOp .add 9 (strOf qi) (.string ⟨#[32, 32]⟩)).run Tryd.prog W = .ok (strOf (qi ++ [32, 32])) W := fun W => run_add_str (P := Tryd.prog) 9 qi [32, 32] (by simp; omega) W
                have HI0 := Lib.hid hi0
                clear hi0
                have had2 : ∀ W, (binOp .add 9 (strOf (qi ++ [32, 32])) (strOf (List.replicate (W9 - tx.size) 32 ++ bytesOf tx))).run Tryd.prog W = .ok (strOf ((qi ++ [32, 32]) ++ (List.replicate (W9 - tx.size) 32 ++ bytesOf tx))) W := fun W => run_add_str (P := Tryd.prog) 9 (qi ++ [32, 32]) _ (by have := bytesOf_len tx; simp; omega) W
                have HFIN : Hid ((qi ++ [32, 32]) ++ (List.replicate (W9 - tx.size) 32 ++ bytesOf tx) = ql ++ cellsT ll R (i + 1)) := by
                  show _ = _
                  rw [HC1.out, if_neg HI0.out, ← HGQ.out]
                  simp only [List.append_assoc, List.nil_append]
                go_wp2_with fail
                refine HP.out.mono ?_
                rintro e w3 ⟨rfl, k3⟩
                have hk3 := hk.then k3
                clear k3
                go_wp2
                go_roundw
                case rel => exact ⟨i + 1, by omega, by go_num, by rw [← HFIN.out]; try simp, hk3⟩
                case measure => simp [intOf]; omega
        · have hcc : (R.length : Int) ≤ (i : Int) ∨ ((i : Int) < (R.length : Int) ∧ (nc : Int) ≤ (i : Int)) := by omega
          obtain rfl : i = m := by omega
          have hpr := (hpre i (Nat.le_refl _)).length_le
          have hbd := HBD.out
          have had : ∀ W, (binOp .add 9 (strOf (ql ++ cellsT ll R i)) (.string ⟨#[10]⟩)).run Tryd.prog W = .ok (strOf ((ql ++ cellsT ll R i) ++ [10])) W := fun W => run_add_str (P := Tryd.prog) 9 _ [10] (by simp only [List.length_cons, List.length_nil]; omega) W
          clear hpr hpre hwl hcs hbd hm
          rcases hcc with q1 | ⟨q1, q2⟩
          · go_wp2
            go_roundw
            case rel => exact ⟨j + 1, by omega, by go_num, by rw [hln.out], hk⟩
            case measure => simp [intOf]; omega
          · go_wp2
            go_roundw
            case rel => exact ⟨j + 1, by omega, by go_num, by rw [hln.out], hk⟩
            case measure => simp [intOf]; omega
    · obtain rfl : j = ll.length := by omega
      have p1 : decide ((ll.length : Int) < (ll.length : Int)) = false := by simp
      have HTT : Hid ((ll.take ll.length).flatMap (lineT ll nc) = tableT ll nc) := by
        show _ = _
        rw [List.take_length]; rfl
      go_wp2
      go_ret
      exact ⟨by rw [← HTT.out, List.take_length]; rfl, hk0⟩
end Go.Proofs.YteocldlglklnjaaDoor

namespace Go.Proofs.YteocldlglklnjaaDoor
open Go.RowKit
attribute [local go_sem] Oper.semAt_some

theorem wideK_le (all : List (List ByteArray)) (k b : Nat) (h : ∀ r ∈ all, ∀ t ∈ r, t.size ≤ b) : wideK all k ≤ b := by
  unfold wideK
  suffices ∀ (l : List (List ByteArray)) (z : Nat), (∀ r ∈ l, ∀ t ∈ r, t.size ≤ b) → z ≤ b → l.foldl (wideStep k) z ≤ b from this all 0 h (by omega)
  intro l
  induction l with
  | nil => exact fun z _ hz => hz
  | cons r l ih =>
    intro z h hz
    rw [List.foldl_cons]
    refine ih _ (fun r' hr' => h r' (by simp [hr'])) ?_
    unfold wideStep
    cases e : r[k]? with
    | none => exact hz
    | some t =>
      have := h r (by simp) t (List.mem_of_getElem? e)
      simp only
      omega
/-- A table of at most so many rows and columns, of texts of at most 20 bytes, is no longer than this. -/
theorem tableT_le (all : List (List ByteArray)) (nc n : Nat) (hn : all.length ≤ n) (h : ∀ r ∈ all, ∀ t ∈ r, t.size ≤ 20) : (tableT all nc).length ≤ n * (nc * 22 + 1) := by
  have hW : ∀ k, wideK all k ≤ 20 := fun k => wideK_le all k 20 h
  have hcell : ∀ k t, t.size ≤ 20 → (cellT all k t).length ≤ 22 := fun k t ht => by
    unfold cellT
    have h1 := hW k
    have h2 := bytesOf_len t
    rw [List.length_append, List.length_append, List.length_replicate]
    have : ((if k = 0 then [] else [32, 32] : List UInt8)).length ≤ 2 := by split <;> simp
    omega
  have hgen : ∀ (g : Nat → List UInt8) (m : Nat), (∀ k, (g k).length ≤ 22) → ((List.range m).flatMap g).length ≤ m * 22 := by
    intro g m hg
    induction m with
    | zero => simp
    | succ m ih =>
      rw [List.range_succ, List.flatMap_append, List.length_append]
      have h1 := hg m
      simp only [List.flatMap_cons, List.flatMap_nil, List.append_nil]
      omega
  have hcells : ∀ r ∈ all, ∀ m, (cellsT all r m).length ≤ m * 22 := fun r hr m => by
    unfold cellsT
    refine hgen _ m (fun k => ?_)
    cases e : r[k]? with
    | none => simp
    | some t => exact hcell k t (h r hr t (List.mem_of_getElem? e))
  have hline : ∀ r ∈ all, (lineT all nc r).length ≤ nc * 22 + 1 := fun r hr => by
    unfold lineT
    have h1 := hcells r hr (min r.length nc)
    have h2 : min r.length nc * 22 ≤ nc * 22 := Nat.mul_le_mul_right _ (Nat.min_le_right _ _)
    rw [List.length_append]
    simp only [List.length_cons, List.length_nil]
    omega
  unfold tableT
  have : ∀ (l : List (List ByteArray)), (∀ r ∈ l, (lineT all nc r).length ≤ nc * 22 + 1) → (l.flatMap (lineT all nc)).length ≤ l.length * (nc * 22 + 1) := by
    intro l
    induction l with
    | nil => simp
    | cons r l ih =>
      intro hl
      rw [List.flatMap_cons, List.length_append, List.length_cons, Nat.succ_mul]
      have h1 := hl r (by simp)
      have h2 := ih (fun r' hr' => hl r' (by simp [hr']))
      omega
  exact Nat.le_trans (this all hline) (Nat.mul_le_mul_right _ hn)
theorem txts_small (l : List Int) : ∀ t ∈ txts l, t.size ≤ 20 := by
  intro t ht
  unfold txts at ht
  obtain ⟨n, _, rfl⟩ := List.mem_map.1 ht
  rw [← bytesOf_len]
  have := decL_len10 n
  show (decL (clampN n)).length ≤ 20
  omega
def headM : List ByteArray := [⟨#[109, 111, 100, 101]⟩, ⟨#[116, 97, 115, 107]⟩, ⟨#[98, 108, 111, 99, 107]⟩, ⟨#[119, 105, 116, 104, 105, 110]⟩, ⟨#[100, 101, 97, 100, 108, 105, 110, 101]⟩, ⟨#[108, 101, 102, 116]⟩]
def headE : List ByteArray := [⟨#[102, 114, 111, 109]⟩, ⟨#[116, 111]⟩, ⟨#[112, 114, 111, 116, 111, 99, 111, 108]⟩, ⟨#[108, 97, 116, 101, 110, 99, 121]⟩, ⟨#[115, 101, 116, 116, 108, 101]⟩]
def headL : List ByteArray := [⟨#[109, 111, 100, 101]⟩, ⟨#[108, 111, 97, 100]⟩]
theorem head_small {hd : List ByteArray} (hh : hd = headM ∨ hd = headE ∨ hd = headL) : ∀ t ∈ hd, t.size ≤ 20 := by
  intro t ht
  rcases hh with rfl | rfl | rfl
  · simp only [headM, List.mem_cons, List.not_mem_nil, or_false] at ht
    rcases ht with rfl | rfl | rfl | rfl | rfl | rfl <;> decide
  · simp only [headE, List.mem_cons, List.not_mem_nil, or_false] at ht
    rcases ht with rfl | rfl | rfl | rfl | rfl <;> decide
  · simp only [headL, List.mem_cons, List.not_mem_nil, or_false] at ht
    rcases ht with rfl | rfl <;> decide
theorem tab_le {hd : List ByteArray} (hh : hd = headM ∨ hd = headE ∨ hd = headL) (xs : List (List Int)) (hl : xs.length ≤ 10000) : (tableT (hd :: xs.map txts) hd.length).length ≤ 2000000 := by
  have h1 := tableT_le (hd :: xs.map txts) hd.length 10001 (by simp; omega) (fun r hr => by
    rcases List.mem_cons.1 hr with rfl | hr
    · exact head_small hh
    · obtain ⟨l, _, rfl⟩ := List.mem_map.1 hr
      exact txts_small l)
  have h2 : hd.length ≤ 6 := by rcases hh with rfl | rfl | rfl <;> decide
  have h3 : 10001 * (hd.length * 22 + 1) ≤ 10001 * (6 * 22 + 1) := Nat.mul_le_mul_left _ (by omega)
  omega
def tabMo (x : Img) (c : Crt) : List UInt8 := tableT (headM :: (modesL x c).map txts) 6
def tabEd (x : Img) (c : Crt) : List UInt8 := tableT (headE :: (edgesL x c).map txts) 5
def tabLo (x : Img) : List UInt8 := tableT (headL :: (loadsL x).map txts) 2
/-- The three tables, with an empty line between. -/
def textA (x : Img) (c : Crt) : List UInt8 := (((tabMo x c ++ [10]) ++ tabEd x c) ++ [10]) ++ tabLo x
section
variable {P : Program} {ops : Array Oper} {Q : Exit → Act → World → Prop} {a : Act} {w : World} {K : Act → World → Prop}
variable (i : Nat) {dst : Option Tmp} {op : Op} {tyy : TypeId} {pos : String} {after : Array Edge} {gd : Option (Nat × Bool)}
theorem op_aggv {ty : TypeId} {x : Operand} {b f : Nat} {cs : List Value} (hi : ops[i]? = some ⟨dst, op, tyy, pos, after, gd⟩) (hw : Region.wanted ⟨dst, op, tyy, pos, after, gd⟩ (yielded ops a.tmps) = true)
    (ho : op = .load ty x) (hx : a.eval x = .pointer (some ⟨b, f, none⟩)) (hA : AggOf P ty cs.length) (hc : CellsAt w b f cs) (h : K (a.put dst (.agg cs.toArray)) w) : wpOp P ops Q i K a w :=
  op_run i hi hw (by
    unfold execOp
    simp only [ho, hx, Instr.loadAt, Instr.sureAddr, Sem.run_bind, Sem.run_pure, Result.andThen_ok, run_loadVar_agg hA hc]) h
theorem op_adds {t t' : TypeId} {x y : Operand} {p q : List UInt8} (hi : ops[i]? = some ⟨dst, op, tyy, pos, after, gd⟩) (hw : Region.wanted ⟨dst, op, tyy, pos, after, gd⟩ (yielded ops a.tmps) = true)
    (ho : op = .binOp .add t x y t') (hx : a.eval x = strOf p) (hy : a.eval y = strOf q) (hb : p.length + q.length ≤ 1000000000000) (h : K (a.put dst (strOf (p ++ q))) w) : wpOp P ops Q i K a w :=
  op_run i hi hw (by
    unfold execOp
    have hg : (eqGuard .add t x y (strOf p) (strOf q)).run P w = .ok () w := by simp [eqGuard, Sem.run_pure]
    simp only [ho, hx, hy, Sem.run_bind, hg, Result.andThen_ok, run_add_str t p q hb w, Sem.run_pure]) h
end

/-- What each operation's value is. -/
def PhiT (il cl : List Value) (x : Img) (c : Crt) (i : Nat) (v : Value) (w : World) : Prop :=
  match i with
  | 0 => ∃ A, v = .slice A 6 6 ∧ TxtAt w A headM
  | 1 => v = .agg il.toArray
  | 2 => v = .agg cl.toArray
  | 3 => ∃ Bc Bi, v = .func (.func 33) #[] #[.pointer (some ⟨Bc, 0, none⟩), .pointer (some ⟨Bi, 0, none⟩)] ∧ Blk w Bc 30 cl.toArray ∧ Blk w Bi 26 il.toArray
  | 4 => v = strOf (tabMo x c)
  | 5 => v = strOf (tabMo x c ++ [10])
  | 6 => ∃ A, v = .slice A 5 5 ∧ TxtAt w A headE
  | 7 => v = .agg il.toArray
  | 8 => v = .agg cl.toArray
  | 9 => ∃ Bc Bi, v = .func (.func 36) #[] #[.pointer (some ⟨Bc, 0, none⟩), .pointer (some ⟨Bi, 0, none⟩)] ∧ Blk w Bc 30 cl.toArray ∧ Blk w Bi 26 il.toArray
  | 10 => v = strOf (tabEd x c)
  | 11 => v = strOf ((tabMo x c ++ [10]) ++ tabEd x c)
  | 12 => v = strOf (((tabMo x c ++ [10]) ++ tabEd x c) ++ [10])
  | 13 => ∃ A, v = .slice A 2 2 ∧ TxtAt w A headL
  | 14 => v = .agg il.toArray
  | 15 => ∃ Bi, v = .func (.func 37) #[] #[.pointer (some ⟨Bi, 0, none⟩)] ∧ Blk w Bi 26 il.toArray
  | 16 => v = strOf (tabLo x)
  | 17 => v = strOf (textA x c)
  | 18 => v = strOf (textA x c)
  | _ => True
theorem phiT_keep (il cl : List Value) (x : Img) (c : Crt) (i : Nat) (v : Value) (w w' : World) (h : PhiT il cl x c i v w) (k : Keep [] w w') : PhiT il cl x c i v w' := by
  unfold PhiT at h ⊢
  split at h <;> first
    | exact h
    | (obtain ⟨A, e, t⟩ := h; exact ⟨A, e, t.keep0 k⟩)
    | (obtain ⟨A, B, e, t, u⟩ := h; exact ⟨A, B, e, t.keep0 k, u.keep0 k⟩)
def dT (i : Nat) : Nat := if i = 18 then 4 else i + 5
set_option maxRecDepth 100000 in
set_option maxHeartbeats 8000000 in
theorem stext_any (v : ImgV) (x : Img) (vc : CrtV) (c : Crt) (w : World) (hTb : Tab w) (hx : ImgAt w v x) (hc : CrtAt w vc c) (hov : ResOk x c) (hm8 : x.modes.length ≤ 8) :
    Calls Tryd.prog 28 #[.agg (imgCells v x).toArray, .agg (crtCells vc c).toArray] w fun e w' => e = .returned (strOf (textA x c)) ∧ Keep [] w w' := by
  obtain ⟨W0, hW0⟩ : ∃ W0, (w.alloc (.cells (imgCells v x).toArray 26)).alloc (.cells (crtCells vc c).toArray 30) = W0 := ⟨_, rfl⟩
  have b0 : Blk W0 w.heap.size 26 (imgCells v x).toArray := by rw [← hW0]; exact (img_box w v x).alloc _
  have b1 : Blk W0 (w.heap.size + 1) 30 (crtCells vc c).toArray := by rw [← hW0]; exact Blk.new1 _ _ _ _
  have K0 : Keep [] w W0 := by rw [← hW0]; exact ((Keep.refl [] w).alloc _).alloc _
  have hIl : (imgCells v x).length = 4 := rfl
  have hCl : (crtCells vc c).length = 2 := rfl
  have hlM := modesL_len (x := x) hc.lm hc.lr
  have hlE : (edgesL x c).length ≤ 100 := by rw [edgesL_len]; have := hc.le; omega
  have hlL : (loadsL x).length ≤ 8 := by rw [loadsL_len]; exact hm8
  have HW := Lib.hid hW0
  have HIC := Lib.hid hIl
  have HCC := Lib.hid hCl
  have hbM := tab_le (hd := headM) (.inl rfl) (modesL x c) hlM
  have hbE := tab_le (hd := headE) (.inr (.inl rfl)) (edgesL x c) (by omega)
  have hbL := tab_le (hd := headL) (.inr (.inr rfl)) (loadsL x) (by omega)
  have hlTM : (tabMo x c).length ≤ 2000000 := hbM
  have hlTE : (tabEd x c).length ≤ 2000000 := hbE
  have hlTL : (tabLo x).length ≤ 2000000 := hbL
  have hSM := smodes_any v x vc c
  have hSE := sedges_any v x vc c
  have hSL := sloads_any v x
  have hTM : ∀ (w1 : World) (A : Option Addr) (Bc Bi : Nat), Keep [] W0 w1 → TxtAt w1 A headM → Blk w1 Bc 30 (crtCells vc c).toArray → Blk w1 Bi 26 (imgCells v x).toArray →
      Calls Tryd.prog 38 #[.slice A 6 6, .func (.func 33) #[] #[.pointer (some ⟨Bc, 0, none⟩), .pointer (some ⟨Bi, 0, none⟩)]] w1 fun e w' => ∃ S : ByteArray, e = .returned (.string S) ∧ bytesOf S = tabMo x c ∧ Keep [] w1 w' := fun w1 A Bc Bi k t hb1 hb2 =>
    table_any txts (modesL x c) A 6 headM 33 _ w1.heap.size w1 (Nat.le_refl _) (by omega) (by decide) t (fun l hl => by rw [txts_len]; exact modesL_row l hl) (by have := hbM; omega) (enters_of Tryd.func33 (by kernel_rfl) rfl)
      (fun W kk => smodes1_seq 8 v x vc c w1 W (hx.keep0 (K0.then k)) (hc.keep0 (K0.then k)) hov kk.below Bc Bi (Nat.lt_of_lt_of_le hb1.lt kk.size) (Nat.lt_of_lt_of_le hb2.lt kk.size) (hb1.keep0 kk) (hb2.keep0 kk))
  have hTE : ∀ (w1 : World) (A : Option Addr) (Bc Bi : Nat), Keep [] W0 w1 → TxtAt w1 A headE → Blk w1 Bc 30 (crtCells vc c).toArray → Blk w1 Bi 26 (imgCells v x).toArray →
      Calls Tryd.prog 38 #[.slice A 5 5, .func (.func 36) #[] #[.pointer (some ⟨Bc, 0, none⟩), .pointer (some ⟨Bi, 0, none⟩)]] w1 fun e w' => ∃ S : ByteArray, e = .returned (.string S) ∧ bytesOf S = tabEd x c ∧ Keep [] w1 w' := fun w1 A Bc Bi k t hb1 hb2 =>
    table_any txts (edgesL x c) A 5 headE 36 _ w1.heap.size w1 (Nat.le_refl _) (by omega) (by decide) t (fun l hl => by rw [txts_len]; exact edgesL_row l hl) (by have := hbE; omega) (enters_of Tryd.func36 (by kernel_rfl) rfl)
      (fun W kk => sedges1_seq 8 v x vc c w1 W (hx.keep0 (K0.then k)) (hc.keep0 (K0.then k)) kk.below Bc Bi (Nat.lt_of_lt_of_le hb1.lt kk.size) (Nat.lt_of_lt_of_le hb2.lt kk.size) (hb1.keep0 kk) (hb2.keep0 kk))
  have hTL : ∀ (w1 : World) (A : Option Addr) (Bi : Nat), Keep [] W0 w1 → TxtAt w1 A headL → Blk w1 Bi 26 (imgCells v x).toArray →
      Calls Tryd.prog 38 #[.slice A 2 2, .func (.func 37) #[] #[.pointer (some ⟨Bi, 0, none⟩)]] w1 fun e w' => ∃ S : ByteArray, e = .returned (.string S) ∧ bytesOf S = tabLo x ∧ Keep [] w1 w' := fun w1 A Bi k t hb2 =>
    table_any txts (loadsL x) A 2 headL 37 _ w1.heap.size w1 (Nat.le_refl _) (by omega) (by decide) t (fun l hl => by rw [txts_len]; exact loadsL_row l hl) (by have := hbL; omega) (enters_of Tryd.func37 (by kernel_rfl) rfl)
      (fun W kk => sloads1_seq 8 v x w1 W (hTb.keep0 (K0.then k)) (hx.keep0 (K0.then k)) kk.below Bi (Nat.lt_of_lt_of_le hb2.lt kk.size) (hb2.keep0 kk))
  clear hW0 hTb hx hc hov hbM hbE hbL
  generalize imgCells v x = il at *
  generalize crtCells vc c = cl at *
  go_enter Tryd.func28, Tryd.ntmps28
  go_wp2_with (rw [HW.out])
  refine wp_region_relB dT (PhiT il cl x c) rfl (by kernel_rfl) (phiT_keep il cl x c) (fun i j hi hj h => by unfold dT at h; split at h <;> split at h <;> omega) (fun i hi => by
    have hi' : i < 19 := hi
    show dT i < 23
    unfold dT; split <;> omega) ?hop ?hend
  case hend =>
    intro a w' hI
    have h18 : PhiT il cl x c 18 (a.tmps.getD 4 undef) w' := hI.at_ 18 (by decide) (by decide)
    have hd := hI.defers
    have hk := K0.then hI.keep
    go_wp2
    refine bodyPost_ret (results_tmp rfl a.tmps _ _) hd ?_
    exact ⟨congrArg Ending.returned h18, hk⟩
  case hop =>
    intro i o a w' ho hk hdeps hoth
    have hi : i < 19 := (List.getElem?_eq_some_iff.1 ho).1
    have h2 : a.tmps.getD 2 undef = .pointer (some ⟨w.heap.size, 0, none⟩) := hoth 2 (fun j hj => by unfold dT; split <;> omega)
    have h3 : a.tmps.getD 3 undef = .pointer (some ⟨w.heap.size + 1, 0, none⟩) := hoth 3 (fun j hj => by unfold dT; split <;> omega)
    have cI : CellsAt w' w.heap.size 0 il := (b0.keep0 hk).cellsAt
    have cC : CellsAt w' (w.heap.size + 1) 0 cl := (b1.keep0 hk).cellsAt
    rcases (show i = 0 ∨ i = 1 ∨ i = 2 ∨ i = 3 ∨ i = 4 ∨ i = 5 ∨ i = 6 ∨ i = 7 ∨ i = 8 ∨ i = 9 ∨ i = 10 ∨ i = 11 ∨ i = 12 ∨ i = 13 ∨ i = 14 ∨ i = 15 ∨ i = 16 ∨ i = 17 ∨ i = 18 by omega) with rfl | rfl | rfl | rfl | rfl | rfl | rfl | rfl | rfl | rfl | rfl | rfl | rfl | rfl | rfl | rfl | rfl | rfl | rfl
    · cases ho
      have kA : Keep [] w' (w'.alloc (.cells (strsV headM).toArray 9)) := (Keep.refl _ w').alloc _
      have dA : Blk (w'.alloc (.cells (strsV headM).toArray 9)) w'.heap.size 9 (strsV headM).toArray := Blk.new _ _ _
      refine op_run (v := .slice (some ⟨w'.heap.size, 0, none⟩) 6 6) (w' := w'.alloc (.cells (strsV headM).toArray 9)) 0 rfl rfl (by go_simp; rfl) ?_
      exact ⟨_, rfl, kA, _, rfl, reads_blk dA, fun _ => ⟨_, _, _, _, rfl, dA⟩⟩
    · cases ho
      exact op_aggv (cs := il) 1 rfl rfl rfl h2 (by rw [HIC.out]; exact agg_image) cI ⟨_, rfl, Keep.refl _ _, rfl⟩
    · cases ho
      exact op_aggv (cs := cl) 2 rfl rfl rfl h3 (by rw [HCC.out]; exact agg_cert) cC ⟨_, rfl, Keep.refl _ _, rfl⟩
    · cases ho
      have g1 : a.tmps.getD 6 undef = .agg il.toArray := hdeps ⟨1, .data⟩ (by simp) rfl
      have g2 : a.tmps.getD 7 undef = .agg cl.toArray := hdeps ⟨2, .data⟩ (by simp) rfl
      refine op_call (f := 12) (vs := #[.agg il.toArray, .agg cl.toArray]) 3 rfl rfl rfl ?_ Tryd.func12 (by kernel_rfl) (by kernel_rfl) (hSM w') ?_
      · simp only [List.map_toArray, List.map_cons, List.map_nil, Act.eval, g1, g2]
      · rintro e w2 ⟨rfl, hw2⟩
        refine ⟨_, rfl, _, rfl, ?_, _, _, rfl, ?_, ?_⟩
        · rw [← hw2]; exact ((Keep.refl _ _).alloc _).alloc _
        · rw [← hw2]; exact Blk.new1 _ _ _ _
        · rw [← hw2]; exact (Blk.new _ _ _).alloc _
    · cases ho
      obtain ⟨A, gA, tA⟩ : PhiT il cl x c 0 (a.tmps.getD 5 undef) w' := hdeps ⟨0, .data⟩ (by simp) rfl
      obtain ⟨Bc, Bi, gB, hb1, hb2⟩ : PhiT il cl x c 3 (a.tmps.getD 8 undef) w' := hdeps ⟨3, .data⟩ (by simp) rfl
      refine op_call (f := 38) 4 rfl rfl rfl rfl Tryd.func38 (by kernel_rfl) (by kernel_rfl) (post := fun e w2 => ∃ S : ByteArray, e = .returned (.string S) ∧ bytesOf S = tabMo x c ∧ Keep [] w' w2) ?_ ?_
      · simp only [List.map_toArray, List.map_cons, List.map_nil, Act.eval, gA, gB]
        exact hTM w' A Bc Bi hk tA hb1 hb2
      · rintro e w2 ⟨S, rfl, hS, k2⟩
        refine ⟨_, rfl, _, rfl, k2, ?_⟩
        show Value.string S = strOf _
        rw [← hS]; rfl
    · cases ho
      have gp : a.tmps.getD 9 undef = strOf (tabMo x c) := hdeps ⟨4, .data⟩ (by simp) rfl
      exact op_adds (p := tabMo x c) (q := [10]) 5 rfl rfl rfl gp rfl (by simp only [List.length_append, List.length_cons, List.length_nil]; omega) ⟨_, rfl, Keep.refl _ _, rfl⟩
    · cases ho
      have kA : Keep [] w' (w'.alloc (.cells (strsV headE).toArray 9)) := (Keep.refl _ w').alloc _
      have dA : Blk (w'.alloc (.cells (strsV headE).toArray 9)) w'.heap.size 9 (strsV headE).toArray := Blk.new _ _ _
      refine op_run (v := .slice (some ⟨w'.heap.size, 0, none⟩) 5 5) (w' := w'.alloc (.cells (strsV headE).toArray 9)) 6 rfl rfl (by go_simp; rfl) ?_
      exact ⟨_, rfl, kA, _, rfl, reads_blk dA, fun _ => ⟨_, _, _, _, rfl, dA⟩⟩
    · cases ho
      exact op_aggv (cs := il) 7 rfl rfl rfl h2 (by rw [HIC.out]; exact agg_image) cI ⟨_, rfl, Keep.refl _ _, rfl⟩
    · cases ho
      exact op_aggv (cs := cl) 8 rfl rfl rfl h3 (by rw [HCC.out]; exact agg_cert) cC ⟨_, rfl, Keep.refl _ _, rfl⟩
    · cases ho
      have g7 : a.tmps.getD 12 undef = .agg il.toArray := hdeps ⟨7, .data⟩ (by simp) rfl
      have g8 : a.tmps.getD 13 undef = .agg cl.toArray := hdeps ⟨8, .data⟩ (by simp) rfl
      refine op_call (f := 16) (vs := #[.agg il.toArray, .agg cl.toArray]) 9 rfl rfl rfl ?_ Tryd.func16 (by kernel_rfl) (by kernel_rfl) (hSE w') ?_
      · simp only [List.map_toArray, List.map_cons, List.map_nil, Act.eval, g7, g8]
      · rintro e w2 ⟨rfl, hw2⟩
        refine ⟨_, rfl, _, rfl, ?_, _, _, rfl, ?_, ?_⟩
        · rw [← hw2]; exact ((Keep.refl _ _).alloc _).alloc _
        · rw [← hw2]; exact Blk.new1 _ _ _ _
        · rw [← hw2]; exact (Blk.new _ _ _).alloc _
    · cases ho
      obtain ⟨A, gA, tA⟩ : PhiT il cl x c 6 (a.tmps.getD 11 undef) w' := hdeps ⟨6, .data⟩ (by simp) rfl
      obtain ⟨Bc, Bi, gB, hb1, hb2⟩ : PhiT il cl x c 9 (a.tmps.getD 14 undef) w' := hdeps ⟨9, .data⟩ (by simp) rfl
      refine op_call (f := 38) 10 rfl rfl rfl rfl Tryd.func38 (by kernel_rfl) (by kernel_rfl) (post := fun e w2 => ∃ S : ByteArray, e = .returned (.string S) ∧ bytesOf S = tabEd x c ∧ Keep [] w' w2) ?_ ?_
      · simp only [List.map_toArray, List.map_cons, List.map_nil, Act.eval, gA, gB]
        exact hTE w' A Bc Bi hk tA hb1 hb2
      · rintro e w2 ⟨S, rfl, hS, k2⟩
        refine ⟨_, rfl, _, rfl, k2, ?_⟩
        show Value.string S = strOf _
        rw [← hS]; rfl
    · cases ho
      have gp : a.tmps.getD 10 undef = strOf (tabMo x c ++ [10]) := hdeps ⟨5, .data⟩ (by simp) rfl
      have gq : a.tmps.getD 15 undef = strOf (tabEd x c) := hdeps ⟨10, .data⟩ (by simp) rfl
      exact op_adds (p := tabMo x c ++ [10]) (q := tabEd x c) 11 rfl rfl rfl gp gq (by simp only [List.length_append, List.length_cons, List.length_nil]; omega) ⟨_, rfl, Keep.refl _ _, rfl⟩
    · cases ho
      have gp : a.tmps.getD 16 undef = strOf ((tabMo x c ++ [10]) ++ tabEd x c) := hdeps ⟨11, .data⟩ (by simp) rfl
      exact op_adds (p := (tabMo x c ++ [10]) ++ tabEd x c) (q := [10]) 12 rfl rfl rfl gp rfl (by simp only [List.length_append, List.length_cons, List.length_nil]; omega) ⟨_, rfl, Keep.refl _ _, rfl⟩
    · cases ho
      have kA : Keep [] w' (w'.alloc (.cells (strsV headL).toArray 9)) := (Keep.refl _ w').alloc _
      have dA : Blk (w'.alloc (.cells (strsV headL).toArray 9)) w'.heap.size 9 (strsV headL).toArray := Blk.new _ _ _
      refine op_run (v := .slice (some ⟨w'.heap.size, 0, none⟩) 2 2) (w' := w'.alloc (.cells (strsV headL).toArray 9)) 13 rfl rfl (by go_simp; rfl) ?_
      exact ⟨_, rfl, kA, _, rfl, reads_blk dA, fun _ => ⟨_, _, _, _, rfl, dA⟩⟩
    · cases ho
      exact op_aggv (cs := il) 14 rfl rfl rfl h2 (by rw [HIC.out]; exact agg_image) cI ⟨_, rfl, Keep.refl _ _, rfl⟩
    · cases ho
      have g14 : a.tmps.getD 19 undef = .agg il.toArray := hdeps ⟨14, .data⟩ (by simp) rfl
      refine op_call (f := 17) (vs := #[.agg il.toArray]) 15 rfl rfl rfl ?_ Tryd.func17 (by kernel_rfl) (by kernel_rfl) (hSL w') ?_
      · simp only [List.map_toArray, List.map_cons, List.map_nil, Act.eval, g14]
      · rintro e w2 ⟨rfl, hw2⟩
        refine ⟨_, rfl, _, rfl, ?_, _, rfl, ?_⟩
        · rw [← hw2]; exact (Keep.refl _ _).alloc _
        · rw [← hw2]; exact Blk.new _ _ _
    · cases ho
      obtain ⟨A, gA, tA⟩ : PhiT il cl x c 13 (a.tmps.getD 18 undef) w' := hdeps ⟨13, .data⟩ (by simp) rfl
      obtain ⟨Bi, gB, hb2⟩ : PhiT il cl x c 15 (a.tmps.getD 20 undef) w' := hdeps ⟨15, .data⟩ (by simp) rfl
      refine op_call (f := 38) 16 rfl rfl rfl rfl Tryd.func38 (by kernel_rfl) (by kernel_rfl) (post := fun e w2 => ∃ S : ByteArray, e = .returned (.string S) ∧ bytesOf S = tabLo x ∧ Keep [] w' w2) ?_ ?_
      · simp only [List.map_toArray, List.map_cons, List.map_nil, Act.eval, gA, gB]
        exact hTL w' A Bi hk tA hb2
      · rintro e w2 ⟨S, rfl, hS, k2⟩
        refine ⟨_, rfl, _, rfl, k2, ?_⟩
        show Value.string S = strOf _
        rw [← hS]; rfl
    · cases ho
      have gp : a.tmps.getD 17 undef = strOf (((tabMo x c ++ [10]) ++ tabEd x c) ++ [10]) := hdeps ⟨12, .data⟩ (by simp) rfl
      have gq : a.tmps.getD 21 undef = strOf (tabLo x) := hdeps ⟨16, .data⟩ (by simp) rfl
      exact op_adds (p := ((tabMo x c ++ [10]) ++ tabEd x c) ++ [10]) (q := tabLo x) 17 rfl rfl rfl gp gq (by simp only [List.length_append, List.length_cons, List.length_nil]; omega) ⟨_, rfl, Keep.refl _ _, rfl⟩
    · cases ho
      have g17 : a.tmps.getD 22 undef = strOf (textA x c) := hdeps ⟨17, .data⟩ (by simp) rfl
      refine op_run (v := strOf (textA x c)) (w' := w') 18 rfl rfl ?_ ⟨_, rfl, Keep.refl _ _, rfl⟩
      unfold execOp
      simp only [Act.eval, g17, Sem.run_pure]

theorem resOk_full {x : Img} (hr : (chkImg x).2 = 0) : ResOk x (fullCrt x) := by
  have hS := small_of hr
  have hb : ∀ (s : Nat) (T : List Int) (k : Int), 0 ≤ (respM x s s T k).1.resp ∧ (respM x s s T k).1.resp ≤ 100000 := fun s T k => by
    unfold respM
    split
    · simp
    · split
      · rename_i t ht
        have h2 := hS.ded t (List.mem_of_getElem? ht)
        have h3 := hS.per t (List.mem_of_getElem? ht)
        simp only
        cases e : respAt x s s T k.toNat t with
        | none => simp
        | some n =>
          unfold respAt at e
          have := leastM_le e
          simp only [Option.getD_some]
          omega
      · simp
  intro rs hrs r hrr i hi _
  unfold fullCrt at hrs
  obtain ⟨m, _, rfl⟩ := List.mem_map.1 hrs
  have h1 : 0 ≤ r.resp ∧ r.resp ≤ 100000 := by
    unfold modeRows modeM at hrr
    split at hrr
    · cases hrr
    · unfold rowsIn at hrr
      obtain ⟨k, _, rfl⟩ := List.mem_map.1 hrr
      exact hb _ _ _
  have h2 := hS.ded _ (List.getElem_mem hi)
  have h3 := hS.per _ (List.getElem_mem hi)
  omega
theorem CrtAt.toW {w : World} {v : CrtV} {c : Crt} (h : CrtAt w v c) : CrtW w v c ∧ greatC c = false := by
  refine ⟨⟨h.modes, h.edges, by have := h.lm; unfold maxLen; omega, by have := h.le; unfold maxLen; omega, fun r hr => by have := h.lr r hr; unfold maxLen; omega⟩, ?_⟩
  unfold greatC
  have h1 := h.lm
  have h2 := h.le
  rw [decide_eq_false (by omega), decide_eq_false (by omega), Bool.false_or, Bool.false_or, List.any_eq_false]
  intro r hr
  have := h.lr r hr
  simp only [decide_eq_true_eq]
  omega
set_option maxRecDepth 100000 in
set_option maxHeartbeats 8000000 in
theorem sheetTexts_out (v : ImgV) (x : Img) (w : World) (hTb : Tab w) (h : ImgAt w v x) (hn : greatImg x = true ∨ ¬ (admM x).2.2 = 0) :
    Calls Tryd.prog 5 #[.agg (imgCells v x).toArray] w fun e w' => e = .returned (.bool true) ∧ Keep [] w w' := by
  obtain ⟨W0, hW0⟩ : ∃ W0, w.alloc (.cells (imgCells v x).toArray 26) = W0 := ⟨_, rfl⟩
  have b0 : Blk W0 w.heap.size 26 (imgCells v x).toArray := by rw [← hW0]; exact img_box w v x
  have K0 : Keep [] w W0 := by rw [← hW0]; exact (Keep.refl [] w).alloc _
  have HIC : Hid ((imgCells v x).length = 4) := show _ = _ from rfl
  have HCI := fun w' (k : Keep [] W0 w') => Lib.hid ((b0.keep0 k).cellsAt)
  have HG := Lib.hid (great_any v x W0 (h.keep0 K0))
  have HA := fun w' (k : Keep [] W0 w') => Lib.hid (admit_any v x w' (hTb.keep0 (K0.then k)) (h.keep0 (K0.then k)))
  have HK0 := Lib.hid K0
  have HW := Lib.hid hW0
  clear h K0 hW0 b0 hTb
  generalize imgCells v x = il at *
  generalize greatImg x = g at *
  generalize admM x = r at *
  obtain ⟨rc, r1, r2⟩ := r
  simp only at hn
  have h0 := HCI W0 (Keep.refl _ _)
  cases g with
  | true =>
    clear HA hn
    go_enter Tryd.func5, Tryd.ntmps5
    go_wp2_with (first | rw [HW.out] | (refine wpList_load_agg rfl 26 (.tmp 1) rfl rfl (cs := il) (by rw [HIC.out]; exact agg_image) h0.out ?_))
    refine HG.out.mono ?_
    rintro e w1 ⟨rfl, k1⟩
    go_wp2
    go_ret
    exact ⟨rfl, HK0.out.then k1⟩
  | false =>
    have hr2 : ¬ r2 = 0 := hn.resolve_left (by simp)
    have z0 : (r2 == 0) = false := by simp; exact hr2
    have z1 : decide (r2 = 0) = false := decide_eq_false hr2
    have z2 : (r2 != 0) = true := by simp; exact hr2
    clear hn
    go_enter Tryd.func5, Tryd.ntmps5
    go_wp2_with (first | rw [HW.out] | (refine wpList_load_agg rfl 26 (.tmp 1) rfl rfl (cs := il) (by rw [HIC.out]; exact agg_image) h0.out ?_))
    refine HG.out.mono ?_
    rintro e w1 ⟨rfl, k1⟩
    have h1 := HCI w1 k1
    have HA1 := HA w1 k1
    have HK1 := Lib.hid (HK0.out.then k1)
    clear k1 HCI HA
    go_wp2_with (refine wpList_load_agg rfl 26 (.tmp 1) rfl rfl (cs := il) (by rw [HIC.out]; exact agg_image) h1.out ?_)
    refine HA1.out.mono ?_
    rintro e w2 ⟨vc, rfl, hc2, k2⟩
    have HCC : Hid ((crtCells vc rc).length = 2) := show _ = _ from rfl
    have HO : Hid (∀ u ∈ crtCells vc rc, u.oneCell' = true) := by
      intro u hu
      simp [crtCells] at hu
      rcases hu with rfl | rfl <;> rfl
    have HK2 := Lib.hid (HK1.out.then k2)
    clear hc2 k2
    simp only
    generalize crtCells vc rc = cl at *
    go_wp2_with (refine stop_store 30 (.tmp 3) (.tmp 14) rfl ?_)
    constructor
    refine wpList_store_all rfl 30 (.tmp 3) (.tmp 14) rfl rfl rfl (vs := cl) (by rw [HCC.out]; exact agg_cert.2) (Blk.new _ _ _) HO.out ?_ ?_
    · rw [HCC.out]; rfl
    intro w4 d4 k4
    have k24 : Keep [] w2 w4 := ((Keep.refl [] w2).alloc _).trans k4 (fun y hy hlt => by simp at hy; omega)
    have HK4 := Lib.hid (HK2.out.then k24)
    clear d4 k4 k24
    go_wp2_with fail
    refine (alive53 _).mono ?_
    rintro e w5 ⟨rfl, k5⟩
    go_wp2
    go_ret
    exact ⟨rfl, HK4.out.then k5⟩

theorem TextsAt.cons {w : World} {vs : List Value} {ll : List (List ByteArray)} (h : TextsAt w vs ll) {A : Option Addr} {l : List ByteArray} {c : Nat} (hl : TxtAt w A l) : TextsAt w ([.slice A l.length c] ++ vs) (l :: ll) := by
  refine ⟨by rw [List.length_append, h.len, List.length_cons, List.length_cons, List.length_nil]; omega, fun i hi => ?_⟩
  cases i with
  | zero => exact ⟨A, c, rfl, hl⟩
  | succ i =>
    obtain ⟨A', c', h1, h2⟩ := h.at_ i (by simpa using hi)
    exact ⟨A', c', by simpa using h1, h2⟩
theorem TextsAt.one {w : World} {vs : List Value} {ll : List (List ByteArray)} (h : TextsAt w vs ll) : ∀ u ∈ vs, u.oneCell' = true := by
  intro u hu
  obtain ⟨i, hi, rfl⟩ := List.getElem_of_mem hu
  obtain ⟨A, c, h1, _⟩ := h.at_ i (by rw [← h.len]; exact hi)
  rw [List.getElem?_eq_getElem hi] at h1
  injection h1 with h1
  rw [h1]; rfl
/-- A row of a head, and other rows behind it. -/
def HeadRows (w : World) (A : Option Addr) (all : List (List ByteArray)) : Prop := ∃ vs, Reads w 1 A all.length vs ∧ TextsAt w vs all
theorem HeadRows.keep0 {w w' : World} {A : Option Addr} {all : List (List ByteArray)} (h : HeadRows w A all) (k : Keep [] w w') : HeadRows w' A all := by
  obtain ⟨vs, h1, h2⟩ := h
  exact ⟨vs, h1.keep0 k, h2.keep0 k⟩
theorem headRows_of {w w' : World} {B g : Nat} {Ah : Option Addr} {ch : Nat} {head : List ByteArray} {ll : List (List ByteArray)} {vs : List Value} {v' : Value}
    (hown : w.ownsRow B 55 1 (.slice (some ⟨g, 0, none⟩) 1 1) 1 [.slice Ah head.length ch]) (ht : TxtAt w Ah head) (hts : TextsAt w vs ll)
    (o5 : w'.ownsRow B 55 1 v' (1 + ll.length) ([.slice Ah head.length ch] ++ vs)) (k5 : Keep (Value.slice (some ⟨g, 0, none⟩) 1 1).ownBlock.toList w w') :
    ∃ A' c', v' = .slice A' (head :: ll).length c' ∧ HeadRows w' A' (head :: ll) := by
  have hF : ∀ y ∈ (Value.slice (some ⟨g, 0, none⟩) 1 1).ownBlock.toList, ∃ cs t fr, w.heap[y]? = some (.cells cs t fr) ∧ t ≠ 9 := fun y hy => by
    obtain ⟨cs, fr, h1⟩ := row_typed hown y hy
    exact ⟨_, _, _, h1, by decide⟩
  obtain ⟨A', c', rfl⟩ := own_shape o5
  have e : 1 + ll.length = (head :: ll).length := by rw [List.length_cons]; omega
  refine ⟨A', c', by rw [e], [.slice Ah head.length ch] ++ vs, ?_, (hts.mono (fun _ _ h => h.keepF k5 hF)).cons (ht.keepF k5 hF)⟩
  have := Reads.of_own o5
  rwa [e] at this
set_option maxRecDepth 100000 in
set_option maxHeartbeats 16000000 in
theorem sheetTexts_in (v : ImgV) (x : Img) (w : World) (hTb : Tab w) (h : ImgAt w v x) (hg : greatImg x = false) (ha : (admM x).2.2 = 0) :
    Calls Tryd.prog 5 #[.agg (imgCells v x).toArray] w fun e w' => e = .returned (.bool true) ∧ Keep [] w w' := by
  have hr := (adm_ok ha).1
  have hm8 := (right_of hr).nm.2
  have hov := resOk_full hr
  obtain ⟨W0, hW0⟩ : ∃ W0, w.alloc (.cells (imgCells v x).toArray 26) = W0 := ⟨_, rfl⟩
  have b0 : Blk W0 w.heap.size 26 (imgCells v x).toArray := by rw [← hW0]; exact img_box w v x
  have K0 : Keep [] w W0 := by rw [← hW0]; exact (Keep.refl [] w).alloc _
  have HIC : Hid ((imgCells v x).length = 4) := show _ = _ from rfl
  have HCI := fun w' (k : Keep [] W0 w') => Lib.hid ((b0.keep0 k).cellsAt)
  have HB2 : Hid (∀ w', Keep [] W0 w' → w'.cell? ⟨w.heap.size, 2, none⟩ = some (.slice v.ma x.modes.length v.mc)) := fun w' k => img_c2 (b0.keep0 k)
  have HG := Lib.hid (great_any v x W0 (h.keep0 K0))
  have HA := fun w' (k : Keep [] W0 w') => Lib.hid (admit_any v x w' (hTb.keep0 (K0.then k)) (h.keep0 (K0.then k)))
  rw [(adm_ok ha).2.2] at HA
  rw [hg] at HG
  have hI := fun w' (k : Keep [] W0 w') => h.keep0 (K0.then k)
  have hTBk := fun w' (k : Keep [] W0 w') => hTb.keep0 (K0.then k)
  have HSM := fun vc wz => Lib.hid (smodes_any v x vc (fullCrt x) wz)
  have HSE := fun vc wz => Lib.hid (sedges_any v x vc (fullCrt x) wz)
  have HSL := fun wz => Lib.hid (sloads_any v x wz)
  have HRM := fun vc wz (k : Keep [] W0 wz) (hc : CrtAt wz vc (fullCrt x)) => Lib.hid (rows_modes v x vc (fullCrt x) wz (hI wz k) hc hov (modesL_len hc.lm hc.lr))
  have HRE := fun vc wz (k : Keep [] W0 wz) (hc : CrtAt wz vc (fullCrt x)) => Lib.hid (rows_edges v x vc (fullCrt x) wz (hI wz k) hc)
  have HRL := fun wz (k : Keep [] W0 wz) => Lib.hid (rows_loads v x wz (hTBk wz k) (hI wz k) hm8)
  have HTX := fun vc wz (k : Keep [] W0 wz) (hc : CrtAt wz vc (fullCrt x)) => Lib.hid (stext_any v x vc (fullCrt x) wz (hTBk wz k) (hI wz k) hc hov hm8)
  have HGc := fun vc wz (hc : CrtAt wz vc (fullCrt x)) => Lib.hid (great53_any vc (fullCrt x) wz hc.toW.1)
  have hgF : ∀ (wz : World) (vc : CrtV), CrtAt wz vc (fullCrt x) → greatC (fullCrt x) = false := fun wz vc hc => hc.toW.2
  have HK0 := Lib.hid K0
  have HW := Lib.hid hW0
  clear h K0 hW0 b0 hTb hI hTBk hg ha hr hov
  generalize imgCells v x = il at *
  have h0 := HCI W0 (Keep.refl _ _)
  go_enter Tryd.func5, Tryd.ntmps5
  go_wp2_with (first | rw [HW.out] | (refine wpList_load_agg rfl 26 (.tmp 1) rfl rfl (cs := il) (by rw [HIC.out]; exact agg_image) h0.out ?_))
  refine HG.out.mono ?_
  rintro e w1 ⟨rfl, k1⟩
  have h1 := HCI w1 k1
  have HA1 := HA w1 k1
  have HK1 := Lib.hid k1
  clear k1 HA HG h0
  go_wp2_with (refine wpList_load_agg rfl 26 (.tmp 1) rfl rfl (cs := il) (by rw [HIC.out]; exact agg_image) h1.out ?_)
  refine HA1.out.mono ?_
  rintro e w2 ⟨vc, rfl, hc2, k2⟩
  have hgf := hgF w2 vc hc2
  have HCC : Hid ((crtCells vc (fullCrt x)).length = 2) := show _ = _ from rfl
  have HO : Hid (∀ u ∈ crtCells vc (fullCrt x), u.oneCell' = true) := by
    intro u hu
    simp [crtCells] at hu
    rcases hu with rfl | rfl <;> rfl
  have HC2 := Lib.hid hc2
  have HK2 := Lib.hid (HK1.out.then k2)
  replace HSM := HSM vc
  replace HSE := HSE vc
  replace HRM := HRM vc
  replace HRE := HRE vc
  replace HTX := HTX vc
  replace HGc := HGc vc
  rw [hgf] at HGc
  clear hc2 k2 hgF hgf HA1 h1
  simp only
  generalize crtCells vc (fullCrt x) = cl at *
  go_wp2_with (refine stop_store 30 (.tmp 3) (.tmp 14) rfl ?_)
  constructor
  refine wpList_store_all rfl 30 (.tmp 3) (.tmp 14) rfl rfl rfl (vs := cl) (by rw [HCC.out]; exact agg_cert.2) (Blk.new _ _ _) HO.out ?_ ?_
  · rw [HCC.out]; rfl
  intro w4 d4 k4
  have k24 : Keep [] w2 w4 := ((Keep.refl [] w2).alloc _).trans k4 (fun y hy hlt => by simp at hy; omega)
  have HK4 := Lib.hid (HK2.out.then k24)
  have HCW : Hid (∀ w', Keep [] w4 w' → CrtAt w' vc (fullCrt x)) := fun w' k => HC2.out.keep0 (k24.then k)
  have HCX := fun w' (k : Keep [] w4 w') => Lib.hid ((d4.keep0 k).cellsAt)
  have HG4 := HGc w4 (HCW.out w4 (Keep.refl _ _))
  have c4 := HCX w4 (Keep.refl _ _)
  clear d4 k4 k24 HGc
  go_wp2_with (refine wpList_agg_gd rfl 30 (.tmp 3) rfl rfl (cs := cl) (by rw [HCC.out]; exact agg_cert) c4.out ?_)
  refine HG4.out.mono ?_
  rintro e y0 ⟨rfl, j0⟩
  have HY0 := Lib.hid j0
  have HLM : Hid ((modesL x (fullCrt x)).length ≤ 10000) := modesL_len HC2.out.lm HC2.out.lr
  have HLE : Hid ((edgesL x (fullCrt x)).length ≤ 10000) := by show _ ≤ _; rw [edgesL_len]; have := HC2.out.le; omega
  have HLL : Hid ((loadsL x).length ≤ 10000) := by show _ ≤ _; rw [loadsL_len]; omega
  have hbM := Lib.hid (tab_le (hd := headM) (.inl rfl) (modesL x (fullCrt x)) HLM.out)
  have hbE := Lib.hid (tab_le (hd := headE) (.inr (.inl rfl)) (edgesL x (fullCrt x)) HLE.out)
  have hbL := Lib.hid (tab_le (hd := headL) (.inr (.inr rfl)) (loadsL x) HLL.out)
  clear j0 HG4 c4
  obtain ⟨V0, hV0⟩ : ∃ V, y0.alloc (.cells (strsV headM).toArray 9) = V := ⟨_, rfl⟩
  have KV0 : Keep [] y0 V0 := by rw [← hV0]; exact (Keep.refl _ _).alloc _
  have dV0 : Blk V0 y0.heap.size 9 (strsV headM).toArray := by rw [← hV0]; exact Blk.new _ _ _
  obtain ⟨U0, hU0⟩ : ∃ U, V0.alloc (.cells #[.slice (some ⟨y0.heap.size, 0, none⟩) 6 6] 55) = U := ⟨_, rfl⟩
  have KU0 : Keep [] V0 U0 := by rw [← hU0]; exact (Keep.refl _ _).alloc _
  have oU0 : U0.ownsRow y0.heap.size 55 1 (.slice (some ⟨V0.heap.size, 0, none⟩) 1 1) 1 [.slice (some ⟨y0.heap.size, 0, none⟩) (headM).length 6] := by rw [← hU0]; exact World.ownsRow_lit (base := y0.heap.size) (e := 55) (size := 1) V0 #[.slice (some ⟨y0.heap.size, 0, none⟩) 6 6] 1 KV0.size (by decide) rfl
  have tU0 : TxtAt U0 (some ⟨y0.heap.size, 0, none⟩) headM := TxtAt.keep0 ⟨reads_blk dV0, fun _ => ⟨_, _, _, _, rfl, dV0⟩⟩ KU0
  simp only [strsV, headM, List.map_cons, List.map_nil] at hV0
  have HV0 := Lib.hid hV0
  have HU0 := Lib.hid hU0
  have JU0 := Lib.hid (HY0.out.then (KV0.then KU0))
  have z0 := HCI U0 (HK4.out.then JU0.out)
  have z1 := HCX U0 JU0.out
  have hzb0 : y0.heap.size ≤ U0.heap.size := (KV0.then KU0).size
  clear hV0 hU0 dV0 KU0 KV0
  go_wp2_with (first | rw [HV0.out] | rw [HU0.out] | (refine wpList_load_agg rfl 26 (.tmp 1) rfl rfl (cs := il) (by rw [HIC.out]; exact agg_image) z0.out ?_) | (refine wpList_load_agg rfl 30 (.tmp 3) rfl rfl (cs := cl) (by rw [HCC.out]; exact agg_cert) z1.out ?_))
  refine (HSM U0).out.mono ?_
  rintro e a0 ⟨rfl, ha0⟩
  have ja0 : Keep [] U0 a0 := by rw [← ha0]; exact ((Keep.refl [] _).alloc _).alloc _
  have C0 := Lib.hid ((HRM U0 (HK4.out.then JU0.out) (HCW.out U0 JU0.out)).out a0 ha0)
  clear ha0 z0 z1
  go_wp2_with fail
  refine C0.out.mono ?_
  rintro e b0 ⟨A0, c0, vs0, rfl, hrd0, hts0, jb0⟩
  have jab0 := ja0.then jb0
  have own0 := own_keep0 oU0 jab0
  have txt0 := tU0.keep0 jab0
  have hsz0 : y0.heap.size ≤ b0.heap.size := Nat.le_trans hzb0 jab0.size
  have hlr0 : (modesL x (fullCrt x)).length ≤ 10000 := HLM.out
  have hone0 := hts0.one
  have JAB0 := Lib.hid (JU0.out.then jab0)
  clear ja0 jb0 C0 oU0 tU0
  generalize hx0 : modesL x (fullCrt x) = X0 at *
  go_wp2_with (refine stop_at 30 rfl ?_)
  constructor
  refine wpList_append_reads rfl (.tmp 25) (.tmp 29) 62 rfl slice_rowsS own0 rfl hrd0 rfl hone0 hsz0 (by omega) (by unfold maxLen; omega) ?_
  intro v0' y1 o5_0 k5_0 hat0
  obtain ⟨B0, d0, rfl, hR0⟩ := headRows_of own0 txt0 hts0 (by simpa using o5_0) k5_0
  subst hx0
  have HT0 : Hid (∀ wr, Keep [] y1 wr → Calls Tryd.prog 29 #[.slice B0 (headM :: (modesL x (fullCrt x)).map txts).length d0] wr fun e w' => e = .returned (strOf (tabMo x (fullCrt x))) ∧ Keep [] wr w') := fun wr k => by
    obtain ⟨vsx, h1, h2⟩ := hR0.keep0 k
    exact rtable_any B0 d0 6 vsx (headM :: (modesL x (fullCrt x)).map txts) wr h1 h2 (by simp; omega) (by simp) rfl (fun r hr => by
      rcases List.mem_cons.1 hr with rfl | hr
      · decide
      · obtain ⟨l, hl, rfl⟩ := List.mem_map.1 hr
        rw [txts_len]; exact modesL_row l hl) (Nat.le_trans hbM.out (by decide))
  generalize (headM :: (modesL x (fullCrt x)).map txts).length = n0 at *
  have HY1 := Lib.hid (JAB0.out.trans k5_0 (fun z hz hlt => by have := (own0.lt z (by simpa using hz)).1; have := HY0.out.size; omega))
  clear own0 txt0 hts0 o5_0 k5_0 hR0 hrd0 hone0 hat0 jab0 hsz0 hzb0
  obtain ⟨V1, hV1⟩ : ∃ V, y1.alloc (.cells (strsV headE).toArray 9) = V := ⟨_, rfl⟩
  have KV1 : Keep [] y1 V1 := by rw [← hV1]; exact (Keep.refl _ _).alloc _
  have dV1 : Blk V1 y1.heap.size 9 (strsV headE).toArray := by rw [← hV1]; exact Blk.new _ _ _
  obtain ⟨U1, hU1⟩ : ∃ U, V1.alloc (.cells #[.slice (some ⟨y1.heap.size, 0, none⟩) 5 5] 55) = U := ⟨_, rfl⟩
  have KU1 : Keep [] V1 U1 := by rw [← hU1]; exact (Keep.refl _ _).alloc _
  have oU1 : U1.ownsRow y1.heap.size 55 1 (.slice (some ⟨V1.heap.size, 0, none⟩) 1 1) 1 [.slice (some ⟨y1.heap.size, 0, none⟩) (headE).length 5] := by rw [← hU1]; exact World.ownsRow_lit (base := y1.heap.size) (e := 55) (size := 1) V1 #[.slice (some ⟨y1.heap.size, 0, none⟩) 5 5] 1 KV1.size (by decide) rfl
  have tU1 : TxtAt U1 (some ⟨y1.heap.size, 0, none⟩) headE := TxtAt.keep0 ⟨reads_blk dV1, fun _ => ⟨_, _, _, _, rfl, dV1⟩⟩ KU1
  simp only [strsV, headE, List.map_cons, List.map_nil] at hV1
  have HV1 := Lib.hid hV1
  have HU1 := Lib.hid hU1
  have jju1 := KV1.then KU1
  have JU1 := Lib.hid (HY1.out.then (KV1.then KU1))
  have z0 := HCI U1 (HK4.out.then JU1.out)
  have z1 := HCX U1 JU1.out
  have hzb1 : y1.heap.size ≤ U1.heap.size := (KV1.then KU1).size
  clear hV1 hU1 dV1 KU1 KV1
  go_wp2_with (first | rw [HV1.out] | rw [HU1.out] | (refine wpList_load_agg rfl 26 (.tmp 1) rfl rfl (cs := il) (by rw [HIC.out]; exact agg_image) z0.out ?_) | (refine wpList_load_agg rfl 30 (.tmp 3) rfl rfl (cs := cl) (by rw [HCC.out]; exact agg_cert) z1.out ?_))
  refine (HSE U1).out.mono ?_
  rintro e a1 ⟨rfl, ha1⟩
  have ja1 : Keep [] U1 a1 := by rw [← ha1]; exact ((Keep.refl [] _).alloc _).alloc _
  have C1 := Lib.hid ((HRE U1 (HK4.out.then JU1.out) (HCW.out U1 JU1.out)).out a1 ha1)
  clear ha1 z0 z1
  go_wp2_with fail
  refine C1.out.mono ?_
  rintro e b1 ⟨A1, c1, vs1, rfl, hrd1, hts1, jb1⟩
  have jab1 := ja1.then jb1
  have jjab1 := jju1.then (ja1.then jb1)
  have own1 := own_keep0 oU1 jab1
  have txt1 := tU1.keep0 jab1
  have hsz1 : y1.heap.size ≤ b1.heap.size := Nat.le_trans hzb1 jab1.size
  have hlr1 : (edgesL x (fullCrt x)).length ≤ 10000 := HLE.out
  have hone1 := hts1.one
  have JAB1 := Lib.hid (JU1.out.then jab1)
  clear ja1 jb1 C1 oU1 tU1
  generalize hx1 : edgesL x (fullCrt x) = X1 at *
  go_wp2_with (refine stop_at 37 rfl ?_)
  constructor
  refine wpList_append_reads rfl (.tmp 32) (.tmp 36) 62 rfl slice_rowsS own1 rfl hrd1 rfl hone1 hsz1 (by omega) (by unfold maxLen; omega) ?_
  intro v1' y2 o5_1 k5_1 hat1
  obtain ⟨B1, d1, rfl, hR1⟩ := headRows_of own1 txt1 hts1 (by simpa using o5_1) k5_1
  subst hx1
  have HT1 : Hid (∀ wr, Keep [] y2 wr → Calls Tryd.prog 29 #[.slice B1 (headE :: (edgesL x (fullCrt x)).map txts).length d1] wr fun e w' => e = .returned (strOf (tabEd x (fullCrt x))) ∧ Keep [] wr w') := fun wr k => by
    obtain ⟨vsx, h1, h2⟩ := hR1.keep0 k
    exact rtable_any B1 d1 5 vsx (headE :: (edgesL x (fullCrt x)).map txts) wr h1 h2 (by simp; omega) (by simp) rfl (fun r hr => by
      rcases List.mem_cons.1 hr with rfl | hr
      · decide
      · obtain ⟨l, hl, rfl⟩ := List.mem_map.1 hr
        rw [txts_len]; exact edgesL_row l hl) (Nat.le_trans hbE.out (by decide))
  generalize (headE :: (edgesL x (fullCrt x)).map txts).length = n1 at *
  have JJ1 : Keep [] y1 y2 := jjab1.trans k5_1 (fun z hz hlt => by have := (own1.lt z (by simpa using hz)).1; omega)
  have HY2 := Lib.hid (JAB1.out.trans k5_1 (fun z hz hlt => by have := (own1.lt z (by simpa using hz)).1; have := HY1.out.size; omega))
  clear own1 txt1 hts1 o5_1 k5_1 hR1 hrd1 hone1 hat1 jab1 hsz1 hzb1
  obtain ⟨V2, hV2⟩ : ∃ V, y2.alloc (.cells (strsV headL).toArray 9) = V := ⟨_, rfl⟩
  have KV2 : Keep [] y2 V2 := by rw [← hV2]; exact (Keep.refl _ _).alloc _
  have dV2 : Blk V2 y2.heap.size 9 (strsV headL).toArray := by rw [← hV2]; exact Blk.new _ _ _
  obtain ⟨U2, hU2⟩ : ∃ U, V2.alloc (.cells #[.slice (some ⟨y2.heap.size, 0, none⟩) 2 2] 55) = U := ⟨_, rfl⟩
  have KU2 : Keep [] V2 U2 := by rw [← hU2]; exact (Keep.refl _ _).alloc _
  have oU2 : U2.ownsRow y2.heap.size 55 1 (.slice (some ⟨V2.heap.size, 0, none⟩) 1 1) 1 [.slice (some ⟨y2.heap.size, 0, none⟩) (headL).length 2] := by rw [← hU2]; exact World.ownsRow_lit (base := y2.heap.size) (e := 55) (size := 1) V2 #[.slice (some ⟨y2.heap.size, 0, none⟩) 2 2] 1 KV2.size (by decide) rfl
  have tU2 : TxtAt U2 (some ⟨y2.heap.size, 0, none⟩) headL := TxtAt.keep0 ⟨reads_blk dV2, fun _ => ⟨_, _, _, _, rfl, dV2⟩⟩ KU2
  simp only [strsV, headL, List.map_cons, List.map_nil] at hV2
  have HV2 := Lib.hid hV2
  have HU2 := Lib.hid hU2
  have jju2 := KV2.then KU2
  have JU2 := Lib.hid (HY2.out.then (KV2.then KU2))
  have z0 := HCI U2 (HK4.out.then JU2.out)
  have hzb2 : y2.heap.size ≤ U2.heap.size := (KV2.then KU2).size
  clear hV2 hU2 dV2 KU2 KV2
  go_wp2_with (first | rw [HV2.out] | rw [HU2.out] | (refine wpList_load_agg rfl 26 (.tmp 1) rfl rfl (cs := il) (by rw [HIC.out]; exact agg_image) z0.out ?_))
  refine (HSL U2).out.mono ?_
  rintro e a2 ⟨rfl, ha2⟩
  have ja2 : Keep [] U2 a2 := by rw [← ha2]; exact (Keep.refl [] _).alloc _
  have C2 := Lib.hid ((HRL U2 (HK4.out.then JU2.out)).out a2 ha2)
  clear ha2 z0
  go_wp2_with fail
  refine C2.out.mono ?_
  rintro e b2 ⟨A2, c2, vs2, rfl, hrd2, hts2, jb2⟩
  have jab2 := ja2.then jb2
  have jjab2 := jju2.then (ja2.then jb2)
  have own2 := own_keep0 oU2 jab2
  have txt2 := tU2.keep0 jab2
  have hsz2 : y2.heap.size ≤ b2.heap.size := Nat.le_trans hzb2 jab2.size
  have hlr2 : (loadsL x).length ≤ 10000 := HLL.out
  have hone2 := hts2.one
  have JAB2 := Lib.hid (JU2.out.then jab2)
  clear ja2 jb2 C2 oU2 tU2
  generalize hx2 : loadsL x = X2 at *
  go_wp2_with (refine stop_at 43 rfl ?_)
  constructor
  refine wpList_append_reads rfl (.tmp 39) (.tmp 42) 62 rfl slice_rowsS own2 rfl hrd2 rfl hone2 hsz2 (by omega) (by unfold maxLen; omega) ?_
  intro v2' y3 o5_2 k5_2 hat2
  obtain ⟨B2, d2, rfl, hR2⟩ := headRows_of own2 txt2 hts2 (by simpa using o5_2) k5_2
  subst hx2
  have HT2 : Hid (∀ wr, Keep [] y3 wr → Calls Tryd.prog 29 #[.slice B2 (headL :: (loadsL x).map txts).length d2] wr fun e w' => e = .returned (strOf (tabLo x)) ∧ Keep [] wr w') := fun wr k => by
    obtain ⟨vsx, h1, h2⟩ := hR2.keep0 k
    exact rtable_any B2 d2 2 vsx (headL :: (loadsL x).map txts) wr h1 h2 (by simp; omega) (by simp) rfl (fun r hr => by
      rcases List.mem_cons.1 hr with rfl | hr
      · decide
      · obtain ⟨l, hl, rfl⟩ := List.mem_map.1 hr
        rw [txts_len]; exact loadsL_row l hl) (Nat.le_trans hbL.out (by decide))
  have hn2 : (headL :: (loadsL x).map txts).length = x.modes.length + 1 := by rw [List.length_cons, List.length_map, loadsL_len]
  rw [hn2] at HT2 ⊢
  have JJ2 : Keep [] y2 y3 := jjab2.trans k5_2 (fun z hz hlt => by have := (own2.lt z (by simpa using hz)).1; omega)
  have HY3 := Lib.hid (JAB2.out.trans k5_2 (fun z hz hlt => by have := (own2.lt z (by simpa using hz)).1; have := HY2.out.size; omega))
  clear own2 txt2 hts2 o5_2 k5_2 hR2 hrd2 hone2 hat2 jab2 hsz2 hzb2
  have hlTM : (tabMo x (fullCrt x)).length ≤ 2000000 := hbM.out
  have hlTE : (tabEd x (fullCrt x)).length ≤ 2000000 := hbE.out
  have hlTL : (tabLo x).length ≤ 2000000 := hbL.out
  have HTXA : Hid (textA x (fullCrt x) = (((tabMo x (fullCrt x) ++ [10]) ++ tabEd x (fullCrt x)) ++ [10]) ++ tabLo x) := show _ = _ from rfl
  generalize textA x (fullCrt x) = tA at *
  generalize tabMo x (fullCrt x) = tM at *
  generalize tabEd x (fullCrt x) = tE at *
  generalize tabLo x = tL at *
  obtain ⟨u1, hu1⟩ : ∃ u, tM ++ [10] = u := ⟨_, rfl⟩
  obtain ⟨u2, hu2⟩ : ∃ u, u1 ++ tE = u := ⟨_, rfl⟩
  obtain ⟨u3, hu3⟩ : ∃ u, u2 ++ [10] = u := ⟨_, rfl⟩
  obtain ⟨s4, hs4⟩ : ∃ S : ByteArray, strOf tA = .string S := ⟨_, rfl⟩
  have hl1 : u1.length ≤ 2000001 := by rw [← hu1, List.length_append, List.length_cons, List.length_nil]; omega
  have hl2 : u2.length ≤ 4000001 := by rw [← hu2, List.length_append]; omega
  have hl3 : u3.length ≤ 4000002 := by rw [← hu3, List.length_append, List.length_cons, List.length_nil]; omega
  have a1 : ∀ W, (binOp .add 9 (strOf tM) (.string ⟨#[10]⟩)).run Tryd.prog W = .ok (strOf u1) W := fun W => by rw [← hu1]; exact run_add_str (P := Tryd.prog) 9 tM [10] (by simp only [List.length_cons, List.length_nil]; omega) W
  have a2 : ∀ W, (binOp .add 9 (strOf u1) (strOf tE)).run Tryd.prog W = .ok (strOf u2) W := fun W => by rw [← hu2]; exact run_add_str (P := Tryd.prog) 9 _ tE (by omega) W
  have a3 : ∀ W, (binOp .add 9 (strOf u2) (.string ⟨#[10]⟩)).run Tryd.prog W = .ok (strOf u3) W := fun W => by rw [← hu3]; exact run_add_str (P := Tryd.prog) 9 _ [10] (by simp only [List.length_cons, List.length_nil]; omega) W
  have a4 : ∀ W, (binOp .add 9 (strOf u3) (strOf tL)).run Tryd.prog W = .ok (.string s4) W := fun W => by rw [← hs4, HTXA.out, hu1, hu2, hu3]; exact run_add_str (P := Tryd.prog) 9 _ tL (by omega) W
  rw [hs4] at HTX
  clear hu1 hu2 hu3 hs4 HTXA hbM hbE hbL HLM HLE HLL HSM HSE HSL HRM HRE HRL
  have z0 := HCI y3 (HK4.out.then HY3.out)
  have z1 := HCX y3 HY3.out
  have z2 := HB2.out y3 (HK4.out.then HY3.out)
  have HX := HTX y3 (HK4.out.then HY3.out) (HCW.out y3 HY3.out)
  have JT0 := Lib.hid (fun wr (k : Keep [] y3 wr) => HT0.out wr (JJ1.then (JJ2.then k)))
  have JT1 := Lib.hid (fun wr (k : Keep [] y3 wr) => HT1.out wr (JJ2.then k))
  have HJ3 := Lib.hid (HK0.out.then (HK4.out.then HY3.out))
  clear HTX HCI HCX HB2 HT0 HT1 JJ1 JJ2
  go_wp2_with (first
    | (refine wpList_agg_gd rfl 26 (.tmp 1) rfl rfl (cs := il) (by rw [HIC.out]; exact agg_image) z0.out ?_)
    | (refine wpList_agg_gd rfl 30 (.tmp 3) rfl rfl (cs := cl) (by rw [HCC.out]; exact agg_cert) z1.out ?_))
  refine HX.out.mono ?_
  rintro e q1 ⟨rfl, kq1⟩
  have D0 := JT0.out q1 kq1
  clear z0 z1 z2 HX
  go_wp2_with fail
  refine D0.mono ?_
  rintro e q2 ⟨rfl, kq2⟩
  have k12 := kq1.then kq2
  have D1 := JT1.out q2 k12
  clear D0 kq1 kq2
  go_wp2_with fail
  refine D1.mono ?_
  rintro e q3 ⟨rfl, kq3⟩
  have k13 := k12.then kq3
  have D2 := HT2.out q3 k13
  clear D1 kq3 k12
  go_wp2_with fail
  refine D2.mono ?_
  rintro e q4 ⟨rfl, kq4⟩
  have k14 := k13.then kq4
  clear D2 kq4 k13
  go_wp2_with fail
  refine (alive53 q4).mono ?_
  rintro e q5 ⟨rfl, kq5⟩
  go_wp2
  go_ret
  exact ⟨rfl, HJ3.out.then (k14.then kq5)⟩
theorem sheetTexts_any (v : ImgV) (x : Img) (w : World) (hTb : Tab w) (h : ImgAt w v x) :
    Calls Tryd.prog 5 #[.agg (imgCells v x).toArray] w fun e w' => e = .returned (.bool true) ∧ Keep [] w w' := by
  by_cases hn : greatImg x = true ∨ ¬ (admM x).2.2 = 0
  · exact sheetTexts_out v x w hTb h hn
  · have hg : greatImg x = false := by
      cases e : greatImg x with
      | false => rfl
      | true => exact absurd (.inl e) hn
    exact sheetTexts_in v x w hTb h hg (Classical.byContradiction fun e => hn (.inr e))
end Go.Proofs.YteocldlglklnjaaDoor
