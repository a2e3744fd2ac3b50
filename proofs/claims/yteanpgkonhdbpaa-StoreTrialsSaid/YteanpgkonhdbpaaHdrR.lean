/- A bank's header in plain words; pair's Of, Right, Is, walked. No condition. A bank's header: the program's Read and NextTrial (header), walked. Condition: rows of at most 100,000 words. header.NextTrial, and the document's header (ref07): At, two, Read, walked. Condition: rows of at most 100,000 words. -/
import Derived.Test.YteanpgkonhdbpaaJrStep
import Derived.Test.YteanpgkonhdbpaaJrSkip
import Derived.Test.YteanpgkonhdbpaaFlow
import Derived.Test.YteanpgkonhdbpaaPend
import Derived.Test.YteanpgkonhdbpaaJrEntry
namespace Go.Proofs.Yteanpgkonhdbpaa
open Go.RowKit

def atH (l : List Nat) (i : Nat) : Nat := l.getD i 4294967295
def twoH (l : List Nat) (i : Nat) : Bool := atH l (i + 1) == cplJ (atH l i)
def validH (l : List Nat) : Bool := twoH l 0 && twoH l 2 && twoH l 4 && twoH l 6 && atH l 6 == 1668246893
def confH (l : List Nat) : Bool := validH l && twoH l 8 && atH l 8 == 1668247142
def usedH (l : List Nat) (i : Nat) : Nat := if atH l (10 + i) = 4294967295 then 0 else 1
def trialsH (l : List Nat) : Nat → Nat
  | 0 => 0
  | i + 1 => trialsH l i + usedH l i
structure HdS where
  seq : Nat
  long : Nat
  check : Nat
  valid : Bool
  conf : Bool
  trials : Nat
def headH (l : List Nat) : HdS := ⟨if validH l then atH l 0 else 0, if validH l then atH l 2 else 0, if validH l then atH l 4 else 0, validH l, confH l, trialsH l 3⟩
abbrev hdCells (h : HdS) : List Value := [.int .u32 (h.seq : Int), .int .u32 (h.long : Int), .int .u32 (h.check : Int), .bool h.valid, .bool h.conf, .int .i64 (h.trials : Int)]
theorem atH_lt {l : List Nat} (h : ∀ x ∈ l, x < 4294967296) (i : Nat) : atH l i < 4294967296 := by
  unfold atH
  rw [List.getD_eq_getElem?_getD]
  cases hx : l[i]? with
  | none => decide
  | some x => exact h x (List.mem_of_getElem? hx)
theorem nat_beq (a b : Nat) : (((a : Int) == (b : Int))) = (a == b) := by
  rw [Bool.eq_iff_iff, beq_iff_eq, beq_iff_eq]
  omega
theorem nat_dec (a b : Nat) : (decide ((a : Int) = (b : Int))) = (a == b) := by
  rw [Bool.eq_iff_iff, decide_eq_true_eq, beq_iff_eq]
  omega

set_option maxRecDepth 100000 in
set_option maxHeartbeats 1000000 in
theorem pof_any (a : Nat) (w : World) (ha : a < 4294967296) :
    Calls Try.prog 132 #[.int .u32 (a : Int)] w fun e w' => e = .returned (.agg #[.int .u32 (a : Int), .int .u32 ((cplJ a : Nat) : Int)]) ∧ Keep [] w w' := by
  have hn : bits .xor .u32 IntKind.u32.max (a : Int) = ((cplJ a : Nat) : Int) := u32_not ha
  have hn2 : bits .xor .u32 (if IntKind.u32.signed = true then -1 else IntKind.u32.max) (a : Int) = ((cplJ a : Nat) : Int) := u32_not ha
  have HA : Hid (AggOf Try.prog 185 2) := ⟨by kernel_rfl, by kernel_rfl⟩
  clear ha
  go_enter Try.func132, Try.ntmps132
  go_wp2
  refine bodyPost_ret (results_blk rfl _ rfl (vs := [.int .u32 (a : Int), .int .u32 ((cplJ a : Nat) : Int)]) (Blk.new _ _ _) HA.out) rfl ?_
  exact ⟨rfl, (Keep.refl [] w).alloc _⟩

set_option maxRecDepth 100000 in
set_option maxHeartbeats 1000000 in
theorem pright_any (a b : Nat) (w : World) (ha : a < 4294967296) :
    Calls Try.prog 116 #[.agg #[.int .u32 (a : Int), .int .u32 (b : Int)]] w fun e w' => e = .returned (.bool (b == cplJ a)) ∧ Keep [] w w' := by
  have hn : bits .xor .u32 IntKind.u32.max (a : Int) = ((cplJ a : Nat) : Int) := u32_not ha
  have hn2 : bits .xor .u32 (if IntKind.u32.signed = true then -1 else IntKind.u32.max) (a : Int) = ((cplJ a : Nat) : Int) := u32_not ha
  have hq := nat_beq b (cplJ a)
  have K1 := Lib.hid ((Keep.refl [] w).alloc (.cells #[.int .u32 (a : Int), .int .u32 (b : Int)] 185))
  clear ha
  go_enter Try.func116, Try.ntmps116
  go_wp2
  go_ret
  exact ⟨rfl, K1.out⟩

set_option maxRecDepth 100000 in
set_option maxHeartbeats 1000000 in
theorem pis_any (a b x : Nat) (w : World) (hx : x < 4294967296) :
    Calls Try.prog 117 #[.agg #[.int .u32 (a : Int), .int .u32 (b : Int)], .int .u32 (x : Int)] w fun e w' => e = .returned (.bool (a == x && b == cplJ x)) ∧ Keep [] w w' := by
  have HO : Hid (∀ W, Calls Try.prog 132 #[.int .u32 (x : Int)] W fun e w' => e = .returned (.agg #[.int .u32 (x : Int), .int .u32 ((cplJ x : Nat) : Int)]) ∧ Keep [] W w') := fun W => pof_any x W hx
  have hF : ∀ W, Keep [] (w.alloc (.cells #[.int .u32 (a : Int), .int .u32 (b : Int)] 185)) W → W.cell? ⟨w.heap.size, 0, none⟩ = some (.int .u32 (a : Int)) ∧ W.cell? ⟨w.heap.size, 1, none⟩ = some (.int .u32 (b : Int)) ∧ True := fun W hk => by
    have h := (Blk.new w 185 #[.int .u32 (a : Int), .int .u32 (b : Int)]).keep0 hk
    exact ⟨h.cell 0, h.cell 1, trivial⟩
  have K1 := Lib.hid ((Keep.refl [] w).alloc (.cells #[.int .u32 (a : Int), .int .u32 (b : Int)] 185))
  have q0 := nat_beq a x
  have q1 := nat_beq b (cplJ x)
  clear hx
  go_enter Try.func117, Try.ntmps117
  go_upto_region 1 with fail
  refine wp_region_flow (Keep [] (w.alloc (.cells #[.int .u32 (a : Int), .int .u32 (b : Int)] 185))) rfl (by kernel_rfl) (Keep.refl _ _).drew ?_
  (refine fl_val (v := ?_) (by rfl) ?_ ?_; rotate_left; (intro w' hS; obtain ⟨f0,f1,f2⟩ := hF w' hS; go_simp; with_reducible rfl); simp only [Act.put, List.setIfInBounds_toArray, List.set_cons_zero, List.set_cons_succ])
  (refine fl_val (v := ?_) (by rfl) ?_ ?_; rotate_left; (intro w' hS; obtain ⟨f0,f1,f2⟩ := hF w' hS; go_simp; with_reducible rfl); simp only [Act.put, List.setIfInBounds_toArray, List.set_cons_zero, List.set_cons_succ])
  refine fl_call (f := 132) (v := .agg #[.int .u32 (x : Int), .int .u32 ((cplJ x : Nat) : Int)]) (by rfl) rfl (by simp only [List.map_toArray, List.map_cons, List.map_nil]; rfl) Try.func132 (by kernel_rfl) (by kernel_rfl) (fun w' hS => ((HO.out w').mono fun e w'' he => ⟨he.1, hS.then he.2⟩)) ?_; simp only [Act.put, List.setIfInBounds_toArray, List.set_cons_zero, List.set_cons_succ]
  refine fl_val (v := .bool (a == x && b == cplJ x)) (by rfl) (fun w' hS => by go_simp; by_cases h1 : a = x <;> by_cases h2 : b = cplJ x <;> simp [h1, h2]) ?_
  simp only [Act.put, List.setIfInBounds_toArray, List.set_cons_zero, List.set_cons_succ]
  (refine fl_val (v := ?_) (by rfl) ?_ ?_; rotate_left; (intro w' hS; obtain ⟨f0,f1,f2⟩ := hF w' hS; go_simp; with_reducible rfl); simp only [Act.put, List.setIfInBounds_toArray, List.set_cons_zero, List.set_cons_succ])
  refine fl_nil ?_
  intro w4 hS
  go_wp2
  go_ret
  exact ⟨rfl, K1.out.then hS⟩
end Go.Proofs.Yteanpgkonhdbpaa

namespace Go.Proofs.Yteanpgkonhdbpaa
open Go.RowKit

section
variable {P : Program} {ops : Array Oper} {S : World → Prop}
theorem fl_callv {Q : Act → Prop} {a : Act} {o : Oper} {rest : List Oper} {f : FuncId} {x : Operand} {fr : Array Value} {args : Array Operand} {ats : Array TypeId} {v : Value} (hw : Region.wanted o (yielded ops a.tmps) = true)
    (ho : o.op = .call { callee := .value x, args := args, argTypes := ats }) (hx : a.eval x = .func (.func f) #[] fr) {vs : Array Value} (hv : args.map a.eval = vs) {fn : Func} (hfn : P.funcs[f]? = some fn) (hnm : (fn.name == "runtime.NumGoroutine") = false) (hbd : fn.body.isNone = false)
    (hc : ∀ w, S w → Calls P f (vs ++ fr) w (fun e w'' => e = .returned v ∧ S w'')) (h : wpFlow P ops S Q rest (a.put o.dst v)) : wpFlow P ops S Q (o :: rest) a :=
  ⟨v, .inl ⟨hw, fun w hs => .inr (.inr ⟨f, vs ++ fr, by
    have hf : fn.body ≠ none := by intro h; rw [h] at hbd; cases hbd
    subst hv
    unfold execOp
    simp only [ho, resolve, hx, Sem.run_bind, invoke]
    simp [go_sem, callFunc, hfn, hf]
    simp at hnm
    simp [hnm], hc w hs⟩)⟩, h⟩
end

/-- A row of words, held in a box. -/
structure RowBox (W : World) (Bl : Nat) (A : Option Addr) (n c : Nat) (l : List Nat) : Prop where
  box : Blk W Bl 54 #[.slice A n c]
  row : Reads W 1 A n (wordsV l)
theorem RowBox.keep0 {W W' : World} {Bl : Nat} {A : Option Addr} {n c : Nat} {l : List Nat} (h : RowBox W Bl A n c l) (k : Keep [] W W') : RowBox W' Bl A n c l := ⟨h.box.keep0 k, h.row.keep0 k⟩

set_option maxRecDepth 100000 in
set_option maxHeartbeats 1000000 in
theorem hat_any (Bl : Nat) (A : Option Addr) (n c : Nat) (l : List Nat) (i : Nat) (w : World) (hl : l.length = n) (hr : RowBox w Bl A n c l) (hi : i ≤ 100) :
    Calls Try.prog 114 #[.int .i64 (i : Int), .pointer (some ⟨Bl, 0, none⟩)] w fun e w' => e = .returned (.int .u32 ((atH l i : Nat) : Int)) ∧ w = w' := by
  have c0 : w.cell? ⟨Bl, 0, none⟩ = some (.slice A n c) := hr.box.cell 0
  have HR := Lib.hid hr.row
  by_cases hlt : i < n
  · have hil : i < l.length := by omega
    obtain ⟨b, o, rfl, hb, hcs⟩ := HR.out.addr (by omega)
    have hx : w.cell? ⟨b, o + i, none⟩ = some (.int .u32 ((atH l i : Nat) : Int)) := hcs i _ (by rw [List.getElem?_map, List.getElem?_eq_getElem hil]; simp [atH, hil])
    have q0 : decide ((i : Int) < (n : Int)) = true := decide_eq_true (by omega)
    have p0 : (i < n) = True := eq_true hlt
    have q1 : (0 : Int) ≤ (i : Int) := by omega
    have q2 : (i : Int) < (n : Int) := by omega
    generalize atH l i = x at *
    clear hr hcs
    go_enter Try.func114, Try.ntmps114
    go_wp2
    go_ret
    exact ⟨rfl, rfl⟩
  · have hx : Hid (atH l i = 4294967295) := by show _ = _; unfold atH; rw [List.getD_eq_getElem?_getD, List.getElem?_eq_none (by omega)]; rfl
    have q0 : decide ((i : Int) < (n : Int)) = false := decide_eq_false (by omega)
    have p0 : (i < n) = False := eq_false hlt
    clear hr
    go_enter Try.func114, Try.ntmps114
    go_wp2
    go_ret
    rw [hx.out]
    exact ⟨rfl, rfl⟩

def atFn (Bl : Nat) : Value := .func (.func 114) #[] #[.pointer (some ⟨Bl, 0, none⟩)]
def twoFn (B3 : Nat) : Value := .func (.func 115) #[] #[.pointer (some ⟨B3, 0, none⟩)]
set_option maxRecDepth 100000 in
set_option maxHeartbeats 1000000 in
theorem htwo_any (Bl B3 : Nat) (A : Option Addr) (n c : Nat) (l : List Nat) (i : Nat) (w : World) (hl : l.length = n) (hr : RowBox w Bl A n c l) (h3 : Blk w B3 183 #[atFn Bl]) (hi : i ≤ 90) :
    Calls Try.prog 115 #[.int .i64 (i : Int), .pointer (some ⟨B3, 0, none⟩)] w fun e w' => e = .returned (.agg #[.int .u32 ((atH l i : Nat) : Int), .int .u32 ((atH l (i + 1) : Nat) : Int)]) ∧ Keep [] w w' := by
  have HA : Hid (AggOf Try.prog 185 2) := ⟨by kernel_rfl, by kernel_rfl⟩
  have hw1 : IntKind.i64.wrap ((i : Int) + 1) = ((i + 1 : Nat) : Int) := by rw [show (i : Int) + 1 = ((i + 1 : Nat) : Int) by omega]; exact IntWalk.i64_in _ (by omega)
  obtain ⟨w1, hw⟩ : ∃ w1, w.alloc (.cells #[.int .u32 0, .int .u32 0] 185) = w1 := ⟨_, rfl⟩
  have K1 : Keep [] w w1 := by rw [← hw]; exact (Keep.refl [] w).alloc _
  have B2 : Blk w1 w.heap.size 185 #[.int .u32 0, .int .u32 0] := by rw [← hw]; exact Blk.new _ _ _
  have hG : ∀ W, Keep [] w1 W → W.cell? ⟨B3, 0, none⟩ = some (atFn Bl) ∧ True ∧ True := fun W hk => ⟨((h3.keep0 (K1.then hk)).cell 0), trivial, trivial⟩
  have HC : Hid (∀ j : Nat, j ≤ 100 → ∀ W, Keep [] w1 W → Calls Try.prog 114 #[.int .i64 (j : Int), .pointer (some ⟨Bl, 0, none⟩)] W fun e w' => e = .returned (.int .u32 ((atH l j : Nat) : Int)) ∧ Keep [] w1 w') := fun j hj W hk =>
    (hat_any Bl A n c l j W hl (hr.keep0 (K1.then hk)) hj).mono fun e w' he => ⟨he.1, he.2 ▸ hk⟩
  have HK := Lib.hid K1
  have HB := Lib.hid B2
  have HW := Lib.hid hw
  clear hr h3 hl K1 B2 hw
  go_enter Try.func115, Try.ntmps115
  go_upto_region 1 with (rw [HW.out])
  refine wp_region_flow_tail 8 (Keep [] w1) rfl (by kernel_rfl) (Keep.refl _ _).drew ?_
  (refine fl_val (v := ?_) (by rfl) ?_ ?_; rotate_left; (intro w' hS; obtain ⟨f0,f1,f2⟩ := hG w' hS; go_simp; with_reducible rfl); simp only [Act.put, List.setIfInBounds_toArray, List.set_cons_zero, List.set_cons_succ])
  (refine fl_val (v := ?_) (by rfl) ?_ ?_; rotate_left; (intro w' hS; obtain ⟨f0,f1,f2⟩ := hG w' hS; go_simp; with_reducible rfl); simp only [Act.put, List.setIfInBounds_toArray, List.set_cons_zero, List.set_cons_succ])
  refine fl_callv (f := 114) (fr := #[.pointer (some ⟨Bl, 0, none⟩)]) (vs := #[.int .i64 (i : Int)]) (v := .int .u32 ((atH l i : Nat) : Int)) (by rfl) rfl rfl (by simp only [List.map_toArray, List.map_cons, List.map_nil]; rfl) Try.func114 (by kernel_rfl) (by kernel_rfl) (fun w' hS => HC.out i (by omega) w' hS) ?_
  simp only [Act.put, List.setIfInBounds_toArray, List.set_cons_zero, List.set_cons_succ]
  (refine fl_val (v := ?_) (by rfl) ?_ ?_; rotate_left; (intro w' hS; obtain ⟨f0,f1,f2⟩ := hG w' hS; go_simp; with_reducible rfl); simp only [Act.put, List.setIfInBounds_toArray, List.set_cons_zero, List.set_cons_succ])
  (refine fl_val (v := ?_) (by rfl) ?_ ?_; rotate_left; (intro w' hS; obtain ⟨f0,f1,f2⟩ := hG w' hS; go_simp; with_reducible rfl); simp only [Act.put, List.setIfInBounds_toArray, List.set_cons_zero, List.set_cons_succ])
  (refine fl_val (v := ?_) (by rfl) ?_ ?_; rotate_left; (intro w' hS; obtain ⟨f0,f1,f2⟩ := hG w' hS; go_simp; with_reducible rfl); simp only [Act.put, List.setIfInBounds_toArray, List.set_cons_zero, List.set_cons_succ])
  refine fl_callv (f := 114) (fr := #[.pointer (some ⟨Bl, 0, none⟩)]) (vs := #[.int .i64 ((i + 1 : Nat) : Int)]) (v := .int .u32 ((atH l (i + 1) : Nat) : Int)) (by rfl) rfl rfl (by simp only [List.map_toArray, List.map_cons, List.map_nil]; rfl) Try.func114 (by kernel_rfl) (by kernel_rfl) (fun w' hS => HC.out (i + 1) (by omega) w' hS) ?_
  simp only [Act.put, List.setIfInBounds_toArray, List.set_cons_zero, List.set_cons_succ]
  (refine fl_val (v := ?_) (by rfl) ?_ ?_; rotate_left; (intro w' hS; obtain ⟨f0,f1,f2⟩ := hG w' hS; go_simp; with_reducible rfl); simp only [Act.put, List.setIfInBounds_toArray, List.set_cons_zero, List.set_cons_succ])
  refine fl_nil ?_
  intro w4 hS
  refine wpList_store_all rfl 185 (.tmp 3) (.tmp 11) rfl rfl rfl (t := 185) (cs := #[.int .u32 0, .int .u32 0]) (vs := [.int .u32 ((atH l i : Nat) : Int), .int .u32 ((atH l (i + 1) : Nat) : Int)]) HA.out.2 (HB.out.keep0 hS) (by simp [Value.oneCell']) rfl ?_
  intro w5 d5 k5
  have HD5 := Lib.hid d5
  have HK5 : Hid (Keep [] w w5) := (HK.out.then hS).trans k5 (fun y hy hl => by simp only [List.mem_cons, List.not_mem_nil, or_false] at hy; omega)
  clear d5 k5 hS
  go_wp2
  refine bodyPost_ret (results_blk rfl _ rfl (vs := [.int .u32 ((atH l i : Nat) : Int), .int .u32 ((atH l (i + 1) : Nat) : Int)]) HD5.out HA.out) rfl ?_
  exact ⟨rfl, HK5.out⟩

/-- A header that is read. -/
theorem wpList_store1H {P : Program} {ops : Array Oper} {rest : List Oper} {o : Oper} {a : Act} {w : World} {Q : Exit → Act → World → Prop} (hgd : o.guard = none) (ty : TypeId) (x y : Operand) (ho : o.op = .store ty x y) {b f : Nat} {u v : Value} (hx : a.eval x = .pointer (some ⟨b, f, none⟩)) (hy : a.eval y = v) (hz : (P.info? ty).map (·.size) = some 1) (hv : v.cells = #[v]) (h1 : v.oneCell' = true)
    (hc : w.cell? ⟨b, f, none⟩ = some u) (hf : w.frozen? ⟨b, f, none⟩ = false) (h : wpList P ops Q rest (a.put o.dst undef) (w.setCell ⟨b, f, none⟩ v)) : wpList P ops Q (o :: rest) a w := by
  have hst : (storeVar ty ⟨b, f, none⟩ v).run P w = .ok () (w.setCell ⟨b, f, none⟩ v) := by
    cases hq : P.info? ty with
    | none => simp [hq] at hz
    | some i =>
      have hs : i.size = 1 := by simpa [hq] using hz
      have hst1 : (store (⟨b, f, none⟩ : Addr) v).run P w = .ok () (w.setCell ⟨b, f, none⟩ v) := by
        rw [run_store P w _ v _ h1, hc, hf]; rfl
      have e0 : (⟨b, f, none⟩ : Addr).add 0 = ⟨b, f, none⟩ := by simp [Addr.add]
      simp [storeVar, Sem.run_bind, sizeOf, typeInfo, hq, hs, hv, storeCells, e0, hst1, Result.andThen]
  refine wpList_plain hgd fun K hK => ?_
  unfold Oper.wp execOp
  simp only [ho, hx, hy, Instr.storeAt, Instr.sureAddr, Sem.run_bind, Sem.run_pure, Result.andThen_ok, hst]
  exact hK _ _ h
theorem trialsH_le (l : List Nat) : ∀ k, trialsH l k ≤ k
  | 0 => Nat.le_refl _
  | k + 1 => by have := trialsH_le l k; unfold trialsH usedH; split <;> omega

set_option maxRecDepth 100000 in
set_option maxHeartbeats 4000000 in
theorem hread_any (A : Option Addr) (n c : Nat) (l : List Nat) (w : World) (hl : l.length = n) (h32 : ∀ x ∈ l, x < 4294967296) (hr : Reads w 1 A n (wordsV l)) :
    Calls Try.prog 75 #[.slice A n c] w fun e w' => e = .returned (.agg (hdCells (headH l)).toArray) ∧ Keep [] w w' := by
  have HA : Hid (AggOf Try.prog 70 6) := ⟨by kernel_rfl, by kernel_rfl⟩
  have HP : Hid (AggOf Try.prog 185 2) := ⟨by kernel_rfl, by kernel_rfl⟩
  have HL32 : Hid (∀ i, atH l i < 4294967296) := fun i => atH_lt h32 i
  obtain ⟨W0, hW⟩ : ∃ W0, ((w.alloc (.cells #[.slice A n c] 54)).alloc (.cells #[.int .u32 0, .int .u32 0, .int .u32 0, .bool false, .bool false, .int .i64 0] 70)).alloc (.cells #[.nilFunc] 183) = W0 := ⟨_, rfl⟩
  have K0 : Keep [] w W0 := by rw [← hW]; exact (((Keep.refl [] w).alloc _).alloc _).alloc _
  have B1 : Blk W0 w.heap.size 54 #[.slice A n c] := by rw [← hW]; exact ((Blk.new _ _ _).alloc _).alloc _
  have B2 : Blk W0 (w.heap.size + 1) 70 #[.int .u32 0, .int .u32 0, .int .u32 0, .bool false, .bool false, .int .i64 0] := by rw [← hW]; exact Blk.alloc (by have h := Blk.new (w.alloc (.cells #[.slice A n c] 54)) 70 #[.int .u32 0, .int .u32 0, .int .u32 0, .bool false, .bool false, .int .i64 0]; simpa using h) _
  have B3 : Blk W0 (w.heap.size + 1 + 1) 183 #[.nilFunc] := by
    rw [← hW]
    have h := Blk.new ((w.alloc (.cells #[.slice A n c] 54)).alloc (.cells #[.int .u32 0, .int .u32 0, .int .u32 0, .bool false, .bool false, .int .i64 0] 70)) 183 #[.nilFunc]
    simpa using h
  have hsz : W0.heap.size = w.heap.size + 1 + 1 + 1 := by rw [← hW]; simp
  have HW := Lib.hid hW
  have HR := Lib.hid hr
  have HL := Lib.hid hl
  have hc3 := B3.cell 0
  have hf3 := B3.frozen 0
  have B31 := B3.set_ 0 (atFn w.heap.size)
  have B11 := B1.far (p := ⟨w.heap.size + 1 + 1, 0, none⟩) (by show w.heap.size ≠ w.heap.size + 1 + 1; omega) (atFn w.heap.size)
  have B21 := B2.far (p := ⟨w.heap.size + 1 + 1, 0, none⟩) (by show w.heap.size + 1 ≠ w.heap.size + 1 + 1; omega) (atFn w.heap.size)
  have K1 : Keep [] w (W0.setCell ⟨w.heap.size + 1 + 1, 0, none⟩ (atFn w.heap.size)) := K0.trans (keep_set _ _ 0 _) (fun y hy hl => by simp only [List.mem_cons, List.not_mem_nil, or_false] at hy; omega)
  have hsz1 : (W0.setCell ⟨w.heap.size + 1 + 1, 0, none⟩ (atFn w.heap.size)).heap.size = w.heap.size + 1 + 1 + 1 := by rw [← hsz]; simp
  clear hr hl h32 hW B1 B2 B3 K0
  go_enter Try.func75, Try.ntmps75
  go_wp2_with (refine stop_store 183 (.tmp 3) (.tmp 10) rfl ?_)
  constructor
  rw [HW.out]
  refine wpList_store1H (v := atFn w.heap.size) rfl 183 (.tmp 3) (.tmp 10) rfl rfl rfl (by kernel_rfl) rfl rfl hc3 hf3 ?_
  clear hc3 hf3 hsz HW
  generalize W0.setCell ⟨w.heap.size + 1 + 1, 0, none⟩ (atFn w.heap.size) = W1 at *
  have HB2 := Lib.hid B21
  have HK1 := Lib.hid K1
  have HSZ1 := Lib.hid hsz1
  have HT : Hid (∀ i : Nat, i ≤ 90 → ∀ W, Keep [] W1 W → Calls Try.prog 115 #[.int .i64 (i : Int), .pointer (some ⟨w.heap.size + 1 + 1, 0, none⟩)] W fun e w' => e = .returned (.agg #[.int .u32 ((atH l i : Nat) : Int), .int .u32 ((atH l (i + 1) : Nat) : Int)]) ∧ Keep [] W w') := fun i hi W hk =>
    htwo_any w.heap.size (w.heap.size + 1 + 1) A n c l i W HL.out ⟨B11.keep0 hk, HR.out.keep0 (HK1.out.then hk)⟩ (B31.keep0 hk) hi
  have HAT : Hid (∀ i : Nat, i ≤ 100 → ∀ W, Keep [] W1 W → Calls Try.prog 114 #[.int .i64 (i : Int), .pointer (some ⟨w.heap.size, 0, none⟩)] W fun e w' => e = .returned (.int .u32 ((atH l i : Nat) : Int)) ∧ W = w') := fun i hi W hk =>
    hat_any w.heap.size A n c l i W HL.out ⟨B11.keep0 hk, HR.out.keep0 (HK1.out.then hk)⟩ hi
  have HC3 : Hid (∀ W, Keep [] W1 W → W.cell? ⟨w.heap.size + 1 + 1, 0, none⟩ = some (.func (.func 114) #[] #[.pointer (some ⟨w.heap.size, 0, none⟩)])) := fun W hk => (B31.keep0 hk).cell 0
  have HT0 : Hid (∀ W, Keep [] W1 W → Calls Try.prog 115 #[.int .i64 0, .pointer (some ⟨w.heap.size + 1 + 1, 0, none⟩)] W fun e w' => e = .returned (.agg #[.int .u32 ((atH l 0 : Nat) : Int), .int .u32 ((atH l 1 : Nat) : Int)]) ∧ Keep [] W w') := HT.out 0 (by decide)
  have HT2 : Hid (∀ W, Keep [] W1 W → Calls Try.prog 115 #[.int .i64 2, .pointer (some ⟨w.heap.size + 1 + 1, 0, none⟩)] W fun e w' => e = .returned (.agg #[.int .u32 ((atH l 2 : Nat) : Int), .int .u32 ((atH l 3 : Nat) : Int)]) ∧ Keep [] W w') := HT.out 2 (by decide)
  have HT4 : Hid (∀ W, Keep [] W1 W → Calls Try.prog 115 #[.int .i64 4, .pointer (some ⟨w.heap.size + 1 + 1, 0, none⟩)] W fun e w' => e = .returned (.agg #[.int .u32 ((atH l 4 : Nat) : Int), .int .u32 ((atH l 5 : Nat) : Int)]) ∧ Keep [] W w') := HT.out 4 (by decide)
  clear B21 B11 B31 K1 hsz1
  go_wp2_with fail
  refine (HT0.out W1 (Keep.refl _ _)).mono ?_
  rintro e w2 ⟨rfl, k2⟩
  go_wp2_with fail
  refine (HT2.out w2 k2).mono ?_
  rintro e w3 ⟨rfl, k3⟩
  have k13 := k2.then k3
  go_wp2_with fail
  refine (HT4.out w3 k13).mono ?_
  rintro e w4 ⟨rfl, k4⟩
  have K14 := Lib.hid (k13.then k4)
  clear k2 k3 k13 k4
  obtain ⟨W5, hW5⟩ : ∃ W5, ((w4.alloc (.cells #[.int .u32 0, .int .u32 0] 185)).alloc (.cells #[.int .u32 0, .int .u32 0] 185)).alloc (.cells #[.int .u32 0, .int .u32 0] 185) = W5 := ⟨_, rfl⟩
  have K15 : Keep [] W1 W5 := by rw [← hW5]; exact ((K14.out.alloc _).alloc _).alloc _
  have a5 : Blk W5 w4.heap.size 185 #[.int .u32 0, .int .u32 0] := by rw [← hW5]; exact ((Blk.new _ _ _).alloc _).alloc _
  have a6 : Blk W5 (w4.heap.size + 1) 185 #[.int .u32 0, .int .u32 0] := by
    rw [← hW5]
    exact Blk.alloc (by have h := Blk.new (w4.alloc (.cells #[.int .u32 0, .int .u32 0] 185)) 185 #[.int .u32 0, .int .u32 0]; simpa using h) _
  have a7 : Blk W5 (w4.heap.size + 1 + 1) 185 #[.int .u32 0, .int .u32 0] := by
    rw [← hW5]
    have h := Blk.new ((w4.alloc (.cells #[.int .u32 0, .int .u32 0] 185)).alloc (.cells #[.int .u32 0, .int .u32 0] 185)) 185 #[.int .u32 0, .int .u32 0]
    simpa using h
  have HW5 := Lib.hid hW5
  have hlo := K14.out.size
  clear hW5
  go_wp2_with (refine stop_store 185 (.tmp 5) (.tmp 13) rfl ?_)
  constructor
  rw [HW5.out]
  clear HW5
  refine wpList_store_all rfl 185 (.tmp 5) (.tmp 13) rfl rfl rfl (t := 185) (cs := #[.int .u32 0, .int .u32 0]) (vs := [.int .u32 ((atH l 0 : Nat) : Int), .int .u32 ((atH l 1 : Nat) : Int)]) HP.out.2 a5 (by simp [Value.oneCell']) rfl ?_
  intro Wa da ka
  replace a6 := a6.keep ka (by simp)
  replace a7 := a7.keep ka (by simp; omega)
  refine wpList_store_all rfl 185 (.tmp 6) (.tmp 15) rfl rfl rfl (t := 185) (cs := #[.int .u32 0, .int .u32 0]) (vs := [.int .u32 ((atH l 2 : Nat) : Int), .int .u32 ((atH l 3 : Nat) : Int)]) HP.out.2 a6 (by simp [Value.oneCell']) rfl ?_
  intro Wb db kb
  replace a7 := a7.keep kb (by simp)
  refine wpList_store_all rfl 185 (.tmp 7) (.tmp 17) rfl rfl rfl (t := 185) (cs := #[.int .u32 0, .int .u32 0]) (vs := [.int .u32 ((atH l 4 : Nat) : Int), .int .u32 ((atH l 5 : Nat) : Int)]) HP.out.2 a7 (by simp [Value.oneCell']) rfl ?_
  intro W7 b7 kc
  have b6 : Blk W7 (w4.heap.size + 1) 185 #[.int .u32 ((atH l 2 : Nat) : Int), .int .u32 ((atH l 3 : Nat) : Int)] := db.keep kc (by simp)
  have b5 : Blk W7 w4.heap.size 185 #[.int .u32 ((atH l 0 : Nat) : Int), .int .u32 ((atH l 1 : Nat) : Int)] := (da.keep kb (by simp)).keep kc (by simp; omega)
  have K17 : Keep [] W1 W7 := ((K15.trans ka (fun y hy hl => by simp only [List.mem_cons, List.not_mem_nil, or_false] at hy; omega)).trans kb (fun y hy hl => by simp only [List.mem_cons, List.not_mem_nil, or_false] at hy; omega)).trans kc (fun y hy hl => by simp only [List.mem_cons, List.not_mem_nil, or_false] at hy; omega)
  clear a5 a6 a7 da db ka kb kc K15 hlo
  go_upto_region 4 with fail
  have c50 : W7.cell? ⟨w4.heap.size, 0, none⟩ = some (.int .u32 ((atH l 0 : Nat) : Int)) := b5.cell 0
  have c60 : W7.cell? ⟨w4.heap.size + 1, 0, none⟩ = some (.int .u32 ((atH l 2 : Nat) : Int)) := b6.cell 0
  have c70 : W7.cell? ⟨w4.heap.size + 1 + 1, 0, none⟩ = some (.int .u32 ((atH l 4 : Nat) : Int)) := b7.cell 0
  generalize w4.heap.size = B5 at *
  go_wp2_with (refine stop_store 70 (.tmp 8) (.tmp 25) rfl ?_)
  constructor
  refine wpList_store_all rfl 70 (.tmp 8) (.tmp 25) rfl rfl rfl (t := 70) (cs := #[.int .u32 0, .int .u32 0, .int .u32 0, .bool false, .bool false, .int .i64 0]) (vs := [.int .u32 ((atH l 0 : Nat) : Int), .int .u32 ((atH l 2 : Nat) : Int), .int .u32 ((atH l 4 : Nat) : Int), .bool false, .bool false, .int .i64 0]) HA.out.2 (Blk.new _ _ _) (by simp [Value.oneCell']) rfl ?_
  intro W8 d8 k8
  have k78 : Keep [] W7 W8 := ((Keep.refl [] W7).alloc _).trans k8 (fun y hy hl => by simp only [List.mem_cons, List.not_mem_nil, or_false] at hy; omega)
  have HB8 := Lib.hid d8
  have HB5 := Lib.hid (b5.keep0 k78)
  have HB6 := Lib.hid (b6.keep0 k78)
  have HB7 := Lib.hid (b7.keep0 k78)
  have K18 := Lib.hid (K17.then k78)
  have hlt8 := d8.lt
  have HLO : Hid (W1.heap.size ≤ W7.heap.size) := K17.size
  have HN2 : Hid (w.heap.size + 1 ≠ W7.heap.size ∧ w.heap.size + 1 + 1 ≠ W7.heap.size ∧ w.heap.size ≤ W7.heap.size) := by have := HSZ1.out; have := K17.size; refine ⟨?_, ?_, ?_⟩ <;> omega
  clear c50 c60 c70 b5 b6 b7 K17 K14 k8 d8 k78 HT0 HT2 HT4
  generalize W7.heap.size = B8 at *
  have HRI0 : ∀ W, Hid (Calls Try.prog 116 #[.agg #[.int .u32 ((atH l 0 : Nat) : Int), .int .u32 ((atH l 1 : Nat) : Int)]] W fun e w' => e = .returned (.bool (twoH l 0)) ∧ Keep [] W w') := fun W => pright_any (atH l 0) (atH l 1) W (HL32.out 0)
  have HRI2 : ∀ W, Hid (Calls Try.prog 116 #[.agg #[.int .u32 ((atH l 2 : Nat) : Int), .int .u32 ((atH l 3 : Nat) : Int)]] W fun e w' => e = .returned (.bool (twoH l 2)) ∧ Keep [] W w') := fun W => pright_any (atH l 2) (atH l 3) W (HL32.out 2)
  have HRI4 : ∀ W, Hid (Calls Try.prog 116 #[.agg #[.int .u32 ((atH l 4 : Nat) : Int), .int .u32 ((atH l 5 : Nat) : Int)]] W fun e w' => e = .returned (.bool (twoH l 4)) ∧ Keep [] W w') := fun W => pright_any (atH l 4) (atH l 5) W (HL32.out 4)
  have HT6 : Hid (∀ W, Keep [] W8 W → Calls Try.prog 115 #[.int .i64 6, .pointer (some ⟨w.heap.size + 1 + 1, 0, none⟩)] W fun e w' => e = .returned (.agg #[.int .u32 ((atH l 6 : Nat) : Int), .int .u32 ((atH l 7 : Nat) : Int)]) ∧ Keep [] W w') := fun W hk => HT.out 6 (by decide) W (K18.out.then hk)
  have HIS6 : ∀ W, Hid (Calls Try.prog 117 #[.agg #[.int .u32 ((atH l 6 : Nat) : Int), .int .u32 ((atH l 7 : Nat) : Int)], .int .u32 1668246893] W fun e w' => e = .returned (.bool (atH l 6 == 1668246893 && atH l (6 + 1) == cplJ 1668246893)) ∧ Keep [] W w') := fun W => pis_any (atH l 6) (atH l 7) 1668246893 W (by decide)
  go_upto_region 5 with fail
  simp only [Act.put]
  go_cut [9] from 10 (fun _ wx => Blk wx B8 70 #[.int .u32 ((atH l 0 : Nat) : Int), .int .u32 ((atH l 2 : Nat) : Int), .int .u32 ((atH l 4 : Nat) : Int), .bool (validH l), .bool false, .int .i64 0] ∧ Keep [B8] W8 wx)
  case first =>
    have c00 : W8.cell? ⟨B5, 0, none⟩ = some (.int .u32 ((atH l 0 : Nat) : Int)) := (HB5.out.keep0 (Keep.refl [] W8)).cell 0
    have c01 : W8.cell? ⟨B5, 1, none⟩ = some (.int .u32 ((atH l 1 : Nat) : Int)) := (HB5.out.keep0 (Keep.refl [] W8)).cell 1
    go_wp2_with fail
    refine (HRI0 W8).out.mono ?_
    rintro e wr0 ⟨rfl, kr0⟩
    have K0 := (Keep.refl [] W8).then kr0
    clear c00 c01
    cases h0 : twoH l 0 with
    | false =>
      have hv : validH l = false := by unfold validH; simp [h0]
      have hb8 := HB8.out.keep0 K0
      have c83 : wr0.cell? ⟨B8, 3, none⟩ = some (.bool false) := hb8.cell 3
      have f83 := hb8.frozen 3
      have HB9 : Hid (Blk (wr0.setCell ⟨B8, 3, none⟩ (.bool false)) B8 70 #[.int .u32 ((atH l 0 : Nat) : Int), .int .u32 ((atH l 2 : Nat) : Int), .int .u32 ((atH l 4 : Nat) : Int), .bool (validH l), .bool false, .int .i64 0]) := by rw [hv]; exact hb8.set_ 3 _
      have HK9 : Hid (Keep [B8] W8 (wr0.setCell ⟨B8, 3, none⟩ (.bool false))) := (K0.mono (G := [B8]) (by simp)).trans (keep_set _ B8 3 _) (fun y hy _ => hy)
      have hl8 := hb8.lt
      clear hb8
      go_wp2_with fail
      go_meet
      case rel => exact ⟨HB9.out, HK9.out⟩
    | true =>
      have c20 : wr0.cell? ⟨B5 + 1, 0, none⟩ = some (.int .u32 ((atH l 2 : Nat) : Int)) := (HB6.out.keep0 K0).cell 0
      have c21 : wr0.cell? ⟨B5 + 1, 1, none⟩ = some (.int .u32 ((atH l 3 : Nat) : Int)) := (HB6.out.keep0 K0).cell 1
      go_wp2_with fail
      refine (HRI2 wr0).out.mono ?_
      rintro e wr2 ⟨rfl, kr2⟩
      have K2 := K0.then kr2
      clear c20 c21
      cases h2 : twoH l 2 with
      | false =>
        have hv : validH l = false := by unfold validH; simp [h0, h2]
        have hb8 := HB8.out.keep0 K2
        have c83 : wr2.cell? ⟨B8, 3, none⟩ = some (.bool false) := hb8.cell 3
        have f83 := hb8.frozen 3
        have HB9 : Hid (Blk (wr2.setCell ⟨B8, 3, none⟩ (.bool false)) B8 70 #[.int .u32 ((atH l 0 : Nat) : Int), .int .u32 ((atH l 2 : Nat) : Int), .int .u32 ((atH l 4 : Nat) : Int), .bool (validH l), .bool false, .int .i64 0]) := by rw [hv]; exact hb8.set_ 3 _
        have HK9 : Hid (Keep [B8] W8 (wr2.setCell ⟨B8, 3, none⟩ (.bool false))) := (K2.mono (G := [B8]) (by simp)).trans (keep_set _ B8 3 _) (fun y hy _ => hy)
        have hl8 := hb8.lt
        clear hb8
        go_wp2_with fail
        go_meet
        case rel => exact ⟨HB9.out, HK9.out⟩
      | true =>
        have c40 : wr2.cell? ⟨B5 + 1 + 1, 0, none⟩ = some (.int .u32 ((atH l 4 : Nat) : Int)) := (HB7.out.keep0 K2).cell 0
        have c41 : wr2.cell? ⟨B5 + 1 + 1, 1, none⟩ = some (.int .u32 ((atH l 5 : Nat) : Int)) := (HB7.out.keep0 K2).cell 1
        go_wp2_with fail
        refine (HRI4 wr2).out.mono ?_
        rintro e wr4 ⟨rfl, kr4⟩
        have K4 := K2.then kr4
        clear c40 c41
        cases h4 : twoH l 4 with
        | false =>
          have hv : validH l = false := by unfold validH; simp [h0, h2, h4]
          have hb8 := HB8.out.keep0 K4
          have c83 : wr4.cell? ⟨B8, 3, none⟩ = some (.bool false) := hb8.cell 3
          have f83 := hb8.frozen 3
          have HB9 : Hid (Blk (wr4.setCell ⟨B8, 3, none⟩ (.bool false)) B8 70 #[.int .u32 ((atH l 0 : Nat) : Int), .int .u32 ((atH l 2 : Nat) : Int), .int .u32 ((atH l 4 : Nat) : Int), .bool (validH l), .bool false, .int .i64 0]) := by rw [hv]; exact hb8.set_ 3 _
          have HK9 : Hid (Keep [B8] W8 (wr4.setCell ⟨B8, 3, none⟩ (.bool false))) := (K4.mono (G := [B8]) (by simp)).trans (keep_set _ B8 3 _) (fun y hy _ => hy)
          have hl8 := hb8.lt
          clear hb8
          go_wp2_with fail
          go_meet
          case rel => exact ⟨HB9.out, HK9.out⟩
        | true =>
          go_wp2_with fail
          refine (HT6.out wr4 K4).mono ?_
          rintro e wt ⟨rfl, kt⟩
          have KT := K4.then kt
          go_wp2_with fail
          refine (HIS6 wt).out.mono ?_
          rintro e wi ⟨rfl, ki⟩
          have KI := KT.then ki
          have hv : validH l = (atH l 6 == 1668246893 && atH l (6 + 1) == cplJ 1668246893) := by
            unfold validH
            rw [h0, h2, h4]
            cases hx : atH l 6 == 1668246893 with
            | false => simp
            | true => simp only [beq_iff_eq] at hx; unfold twoH; rw [hx]; simp
          clear h0 h2 h4
          have hb8 := HB8.out.keep0 KI
          have c83 : wi.cell? ⟨B8, 3, none⟩ = some (.bool false) := hb8.cell 3
          have f83 := hb8.frozen 3
          have HB9 : Hid (Blk (wi.setCell ⟨B8, 3, none⟩ (.bool (atH l 6 == 1668246893 && atH l (6 + 1) == cplJ 1668246893))) B8 70 #[.int .u32 ((atH l 0 : Nat) : Int), .int .u32 ((atH l 2 : Nat) : Int), .int .u32 ((atH l 4 : Nat) : Int), .bool (validH l), .bool false, .int .i64 0]) := by rw [hv]; exact hb8.set_ 3 _
          have HK9 : Hid (Keep [B8] W8 (wi.setCell ⟨B8, 3, none⟩ (.bool (atH l 6 == 1668246893 && atH l (6 + 1) == cplJ 1668246893)))) := (KI.mono (G := [B8]) (by simp)).trans (keep_set _ B8 3 _) (fun y hy _ => hy)
          have hl8 := hb8.lt
          clear hb8
          go_wp2_with fail
          go_meet
          case rel => exact ⟨HB9.out, HK9.out⟩
  case rest =>
    obtain ⟨hb9, k89⟩ := hcut
    generalize wc = w9 at *
    have HB9 := Lib.hid hb9
    have K19 : Hid (Keep [] W1 w9) := K18.out.trans k89 (fun y hy hl => by have := HLO.out; simp only [List.mem_cons, List.not_mem_nil, or_false] at hy; omega)
    have HT8 : Hid (Calls Try.prog 115 #[.int .i64 8, .pointer (some ⟨w.heap.size + 1 + 1, 0, none⟩)] w9 fun e w' => e = .returned (.agg #[.int .u32 ((atH l 8 : Nat) : Int), .int .u32 ((atH l 9 : Nat) : Int)]) ∧ Keep [] w9 w') := HT.out 8 (by decide) w9 K19.out
    have HIS8 : ∀ W, Hid (Calls Try.prog 117 #[.agg #[.int .u32 ((atH l 8 : Nat) : Int), .int .u32 ((atH l 9 : Nat) : Int)], .int .u32 1668247142] W fun e w' => e = .returned (.bool (atH l 8 == 1668247142 && atH l (8 + 1) == cplJ 1668247142)) ∧ Keep [] W w') := fun W => pis_any (atH l 8) (atH l 9) 1668247142 W (by decide)
    clear hb9 k89 HT6 HIS6 HRI0 HRI2 HRI4 HB5 HB6 HB7 HB8
    go_upto_region 6 with fail
    go_cut [9] from 10 (fun _ wx => Blk wx B8 70 #[.int .u32 ((atH l 0 : Nat) : Int), .int .u32 ((atH l 2 : Nat) : Int), .int .u32 ((atH l 4 : Nat) : Int), .bool (validH l), .bool (confH l), .int .i64 0] ∧ Keep [B8] w9 wx)
    case first =>
      have hb9 := HB9.out
      have hl8 := hb9.lt
      have c94 : w9.cell? ⟨B8, 4, none⟩ = some (.bool false) := hb9.cell 4
      have f94 := hb9.frozen 4
      cases hv : validH l with
      | false =>
        have c93 : w9.cell? ⟨B8, 3, none⟩ = some (.bool false) := by rw [← hv]; exact hb9.cell 3
        have hcf : confH l = false := by unfold confH; rw [hv]; rfl
        have HB10 : Hid (Blk (w9.setCell ⟨B8, 4, none⟩ (.bool false)) B8 70 #[.int .u32 ((atH l 0 : Nat) : Int), .int .u32 ((atH l 2 : Nat) : Int), .int .u32 ((atH l 4 : Nat) : Int), .bool (validH l), .bool (confH l), .int .i64 0]) := by rw [hcf]; exact hb9.set_ 4 _
        have HK10 : Hid (Keep [B8] w9 (w9.setCell ⟨B8, 4, none⟩ (.bool false))) := keep_set _ B8 4 _
        clear hb9
        go_wp2_with fail
        go_meet
        case rel => exact ⟨HB10.out, HK10.out⟩
      | true =>
        have c93 : w9.cell? ⟨B8, 3, none⟩ = some (.bool true) := by rw [← hv]; exact hb9.cell 3
        clear hb9
        go_wp2_with fail
        refine HT8.out.mono ?_
        rintro e wt ⟨rfl, kt⟩
        go_wp2_with fail
        refine (HIS8 wt).out.mono ?_
        rintro e wi ⟨rfl, ki⟩
        have KI := kt.then ki
        have hcf : confH l = (atH l 8 == 1668247142 && atH l (8 + 1) == cplJ 1668247142) := by
          unfold confH
          rw [hv]
          cases hx : atH l 8 == 1668247142 with
          | false => simp
          | true => simp only [beq_iff_eq] at hx; unfold twoH; rw [hx]; simp
        have hb10 := HB9.out.keep0 KI
        have c94 : wi.cell? ⟨B8, 4, none⟩ = some (.bool false) := hb10.cell 4
        have f94 := hb10.frozen 4
        have hl8 := hb10.lt
        have HB10 : Hid (Blk (wi.setCell ⟨B8, 4, none⟩ (.bool (atH l 8 == 1668247142 && atH l (8 + 1) == cplJ 1668247142))) B8 70 #[.int .u32 ((atH l 0 : Nat) : Int), .int .u32 ((atH l 2 : Nat) : Int), .int .u32 ((atH l 4 : Nat) : Int), .bool (validH l), .bool (confH l), .int .i64 0]) := by rw [hcf]; exact hb10.set_ 4 _
        have HK10 : Hid (Keep [B8] w9 (wi.setCell ⟨B8, 4, none⟩ (.bool (atH l 8 == 1668247142 && atH l (8 + 1) == cplJ 1668247142)))) := (KI.mono (G := [B8]) (by simp)).trans (keep_set _ B8 4 _) (fun y hy _ => hy)
        clear hb10 hcf
        go_wp2_with fail
        go_meet
        case rel => exact ⟨HB10.out, HK10.out⟩
    case rest =>
      obtain ⟨hb10, k910⟩ := hcut
      generalize wc = w10 at *
      have HB10 := Lib.hid hb10
      have K110 : Hid (Keep [] W1 w10) := K19.out.trans k910 (fun y hy hl => by have := HLO.out; simp only [List.mem_cons, List.not_mem_nil, or_false] at hy; omega)
      have HZ : Hid (hdCells { headH l with trials := 0 } = [.int .u32 (((if validH l then atH l 0 else 0 : Nat)) : Int), .int .u32 (((if validH l then atH l 2 else 0 : Nat)) : Int), .int .u32 (((if validH l then atH l 4 else 0 : Nat)) : Int), .bool (validH l), .bool (confH l), .int .i64 0]) := show _ = _ from rfl
      have c103 : w10.cell? ⟨B8, 3, none⟩ = some (.bool (validH l)) := hb10.cell 3
      clear k910 HT8 HIS8 HB9 K19 hb10
      go_upto_if 52 with fail
      go_cut [9] from 10 (fun _ wx => Blk wx B8 70 (hdCells { headH l with trials := 0 }).toArray ∧ Keep [B8] w10 wx)
      case first =>
        cases hv : validH l with
        | true =>
          have HB11 : Hid (Blk w10 B8 70 (hdCells { headH l with trials := 0 }).toArray) := by
            rw [HZ.out, hv]
            have h := HB10.out
            rw [hv] at h
            exact h
          clear HZ
          go_wp2_with fail
          go_meet
          case rel => exact ⟨HB11.out, (Keep.refl [] w10).mono (by simp)⟩
        | false =>
          have hcf : confH l = false := by unfold confH; rw [hv]; rfl
          go_wp2_with (refine stop_store 68 (.tmp 54) (.tmp 53) rfl ?_)
          constructor
          refine wpList_store_agg rfl 68 (.tmp 54) (.tmp 53) rfl rfl rfl (f := 0) (t := 70) (cs := #[.int .u32 ((atH l 0 : Nat) : Int), .int .u32 ((atH l 2 : Nat) : Int), .int .u32 ((atH l 4 : Nat) : Int), .bool (validH l), .bool (confH l), .int .i64 0]) (vs := [.int .u32 0, .int .u32 0, .int .u32 0]) (by kernel_rfl) HB10.out (by simp [Value.oneCell']) (by show 3 ≤ 6; decide) ?_
          intro w11 d11 k11
          have HB11 : Hid (Blk w11 B8 70 (hdCells { headH l with trials := 0 }).toArray) := by
            rw [hv] at d11
            rw [HZ.out, hv]
            exact d11
          have HK11 := Lib.hid k11
          clear d11 k11 HZ
          go_wp2_with fail
          go_meet
          case rel => exact ⟨HB11.out, HK11.out⟩
      case rest =>
        obtain ⟨hb11, k1011⟩ := hcut
        generalize wc = w11 at *
        have HB11 := Lib.hid hb11
        have K111 : Hid (Keep [] W1 w11) := K110.out.trans k1011 (fun y hy hl => by have := HLO.out; simp only [List.mem_cons, List.not_mem_nil, or_false] at hy; omega)
        have hB2 := HN2.out
        clear hb11 k1011 HB10 K110 HZ c103
        go_wp2_with fail
        go_loopw [55] (fun v55 wr => ∃ k : Nat, k ≤ 3 ∧ v55 = .int .i64 (k : Int) ∧ Blk wr B8 70 (hdCells { headH l with trials := trialsH l k }).toArray ∧ Keep [] W1 wr) (fun v55 _ => 3 - (intOf v55).toNat)
        case atStart => exact ⟨0, Nat.zero_le _, rfl, HB11.out, K111.out⟩
        case round =>
          obtain ⟨k, hk, rfl, hb, hkp⟩ := hrel
          by_cases hlt : k < 3
          · have hwk : IntKind.i64.wrap ((k : Int) + 1) = ((k + 1 : Nat) : Int) := by rw [show (k : Int) + 1 = ((k + 1 : Nat) : Int) by omega]; exact IntWalk.i64_in _ (by omega)
            have hw10 : IntKind.i64.wrap (10 + (k : Int)) = ((10 + k : Nat) : Int) := by rw [show 10 + (k : Int) = ((10 + k : Nat) : Int) by omega]; exact IntWalk.i64_in _ (by omega)
            have HAK := Lib.hid (HAT.out (10 + k) (by omega) wr hkp)
            have hc3 := HC3.out wr hkp
            have HS : Hid (trialsH l (k + 1) = trialsH l k + usedH l k) := show _ = _ from rfl
            have htk := trialsH_le l k
            have cb5 : wr.cell? ⟨B8, 5, none⟩ = some (.int .i64 ((trialsH l k : Nat) : Int)) := hb.cell 5
            have fb5 := hb.frozen 5
            have hl8 := hb.lt
            have HB := Lib.hid hb
            have HKP := Lib.hid hkp
            have hw5 : IntKind.i64.wrap (((trialsH l k : Nat) : Int) + 1) = ((trialsH l k + 1 : Nat) : Int) := by rw [show ((trialsH l k : Nat) : Int) + 1 = ((trialsH l k + 1 : Nat) : Int) by omega]; exact IntWalk.i64_in _ (by omega)
            clear hb hkp
            by_cases hu : atH l (10 + k) = 4294967295
            · have HS2 : Hid (trialsH l (k + 1) = trialsH l k) := by show _ = _; rw [HS.out, usedH, if_pos hu, Nat.add_zero]
              rw [hu] at HAK
              clear hu
              go_wp2_with fail
              refine HAK.out.mono ?_
              rintro e w' ⟨rfl, rfl⟩
              go_wp2
              go_roundw
              case rel => exact ⟨k + 1, by omega, by go_num, by rw [HS2.out]; exact HB.out, HKP.out⟩
              case measure => simp [intOf]; omega
            · have HS2 : Hid (trialsH l (k + 1) = trialsH l k + 1) := by show _ = _; rw [HS.out, usedH, if_neg hu]
              have hne : ((atH l (10 + k) : Nat) : Int) ≠ 4294967295 := by omega
              have hne1 : (((atH l (10 + k) : Nat) : Int) == 4294967295) = false := beq_eq_false_iff_ne.2 hne
              have hne2 : (((atH l (10 + k) : Nat) : Int) = 4294967295) = False := eq_false hne
              have hne3 : (atH l (10 + k) = 4294967295) = False := eq_false hu
              generalize atH l (10 + k) = x at *
              clear hu hne
              go_wp2_with fail
              refine HAK.out.mono ?_
              rintro e w' ⟨rfl, rfl⟩
              go_wp2
              have HB' : Hid (Blk (wr.setCell ⟨B8, 5, none⟩ (.int .i64 ((trialsH l k + 1 : Nat) : Int))) B8 70 (hdCells { headH l with trials := trialsH l (k + 1) }).toArray) := by rw [HS2.out]; exact HB.out.set_ 5 _
              have HK' : Hid (Keep [] W1 (wr.setCell ⟨B8, 5, none⟩ (.int .i64 ((trialsH l k + 1 : Nat) : Int)))) := HKP.out.trans (keep_set _ B8 5 _) (fun y hy hl => by have := HLO.out; simp only [List.mem_cons, List.not_mem_nil, or_false] at hy; omega)
              go_roundw
              case rel => exact ⟨k + 1, by omega, by go_num, HB'.out, HK'.out⟩
              case measure => simp [intOf]; omega
          · obtain rfl : k = 3 := by omega
            have HBF : Hid (Blk wr B8 70 (hdCells (headH l)).toArray) := hb
            have hB2r := HB2.out.keep0 hkp
            have HKP := Lib.hid hkp
            clear hb hkp
            go_wp2_with (first
              | (refine wpList_load_agg rfl 70 (.tmp 8) rfl rfl (cs := hdCells (headH l)) HA.out ?_ ?_; exact HBF.out.cellsAt)
              | (refine stop_store 70 (.tmp 2) (.tmp 68) rfl ?_))
            constructor
            refine wpList_store_all rfl 70 (.tmp 2) (.tmp 68) rfl rfl rfl (t := 70) (cs := #[.int .u32 0, .int .u32 0, .int .u32 0, .bool false, .bool false, .int .i64 0]) (vs := hdCells (headH l)) HA.out.2 hB2r (by simp [Value.oneCell']) rfl ?_
            intro w12 d12 k12
            have HD := Lib.hid d12
            have HKF : Hid (Keep [] w w12) := (HK1.out.then HKP.out).trans k12 (fun y hy hl => by simp only [List.mem_cons, List.not_mem_nil, or_false] at hy; omega)
            clear d12 k12 hB2r
            go_wp2
            refine bodyPost_ret (results_blk rfl _ rfl (vs := hdCells (headH l)) HD.out HA.out) rfl ?_
            exact ⟨rfl, HKF.out⟩
end Go.Proofs.Yteanpgkonhdbpaa

namespace Go.Proofs.Yteanpgkonhdbpaa
open Go.RowKit

/-- Where the next trial's word is, of those from one on. -/
def nextTr (l : List Nat) (n : Nat) : Nat → Nat → Option Nat
  | 0, _ => none
  | f + 1, k => if n ≤ 10 + k ∨ atH l (10 + k) = 4294967295 then some (10 + k) else nextTr l n f (k + 1)

set_option maxRecDepth 100000 in
set_option maxHeartbeats 1000000 in
theorem rat_any7 (A : Option Addr) (n c : Nat) (l : List Nat) (i : Nat) (w : World) (hl : l.length = n) (hr : Reads w 1 A n (wordsV l)) (hi : i ≤ 100) :
    Calls Try.prog 123 #[.slice A n c, .int .i64 (i : Int)] w fun e w' => e = .returned (.int .u32 ((atH l i : Nat) : Int)) ∧ w = w' := by
  have HR := Lib.hid hr
  by_cases hlt : i < n
  · have hil : i < l.length := by omega
    obtain ⟨b, o, rfl, hb, hcs⟩ := HR.out.addr (by omega)
    have hx : w.cell? ⟨b, o + i, none⟩ = some (.int .u32 ((atH l i : Nat) : Int)) := hcs i _ (by rw [List.getElem?_map, List.getElem?_eq_getElem hil]; simp [atH, hil])
    have q0 : decide ((i : Int) < (n : Int)) = true := decide_eq_true (by omega)
    have p0 : (i < n) = True := eq_true hlt
    have q1 : (0 : Int) ≤ (i : Int) := by omega
    have q2 : (i : Int) < (n : Int) := by omega
    generalize atH l i = x at *
    clear hr hcs
    go_enter Try.func123, Try.ntmps123
    go_wp2
    go_ret
    exact ⟨rfl, rfl⟩
  · have hx : Hid (atH l i = 4294967295) := by show _ = _; unfold atH; rw [List.getD_eq_getElem?_getD, List.getElem?_eq_none (by omega)]; rfl
    have q0 : decide ((i : Int) < (n : Int)) = false := decide_eq_false (by omega)
    have p0 : (i < n) = False := eq_false hlt
    clear hr
    go_enter Try.func123, Try.ntmps123
    go_wp2
    go_ret
    rw [hx.out]
    exact ⟨rfl, rfl⟩

set_option maxRecDepth 100000 in
set_option maxHeartbeats 1000000 in
theorem rtwo_any7 (A : Option Addr) (n c : Nat) (l : List Nat) (i : Nat) (w : World) (hl : l.length = n) (h32 : ∀ x ∈ l, x < 4294967296) (hr : Reads w 1 A n (wordsV l)) (hi : i ≤ 90) :
    Calls Try.prog 126 #[.slice A n c, .int .i64 (i : Int)] w fun e w' => e = .returned (.bool (twoH l i)) ∧ w = w' := by
  have hw1 : IntKind.i64.wrap ((i : Int) + 1) = ((i + 1 : Nat) : Int) := by rw [show (i : Int) + 1 = ((i + 1 : Nat) : Int) by omega]; exact IntWalk.i64_in _ (by omega)
  have HA1 := Lib.hid (rat_any7 A n c l (i + 1) w hl hr (by omega))
  have HA0 := Lib.hid (rat_any7 A n c l i w hl hr (by omega))
  have HO := Lib.hid (other_any (atH l i) w (atH_lt h32 i))
  have hq := nat_beq (atH l (i + 1)) (cplJ (atH l i))
  have HT : Hid (twoH l i = (atH l (i + 1) == cplJ (atH l i))) := show _ = _ from rfl
  generalize twoH l i = t at *
  generalize atH l (i + 1) = x at *
  generalize atH l i = y at *
  clear hr h32
  go_enter Try.func126, Try.ntmps126
  go_wp2_with fail
  refine HA1.out.mono ?_
  rintro e w' ⟨rfl, rfl⟩
  go_wp2_with fail
  refine HA0.out.mono ?_
  rintro e w' ⟨rfl, rfl⟩
  go_wp2_with fail
  refine HO.out.mono ?_
  rintro e w' ⟨rfl, rfl⟩
  go_wp2
  go_ret
  rw [HT.out]
  exact ⟨rfl, rfl⟩

set_option maxRecDepth 100000 in
set_option maxHeartbeats 4000000 in
theorem rhread_any (A : Option Addr) (n c : Nat) (l : List Nat) (w : World) (hl : l.length = n) (h32 : ∀ x ∈ l, x < 4294967296) (hr : Reads w 1 A n (wordsV l)) :
    Calls Try.prog 86 #[.slice A n c] w fun e w' => e = .returned (.agg (hdCells (headH l)).toArray) ∧ Keep [] w w' := by
  have HA : Hid (AggOf Try.prog 145 6) := ⟨by kernel_rfl, by kernel_rfl⟩
  have HAT : Hid (∀ i : Nat, i ≤ 100 → ∀ W, Keep [] w W → Calls Try.prog 123 #[.slice A n c, .int .i64 (i : Int)] W fun e w' => e = .returned (.int .u32 ((atH l i : Nat) : Int)) ∧ W = w') := fun i hi W hk => rat_any7 A n c l i W hl (hr.keep0 hk) hi
  have HTW : Hid (∀ i : Nat, i ≤ 90 → ∀ W, Keep [] w W → Calls Try.prog 126 #[.slice A n c, .int .i64 (i : Int)] W fun e w' => e = .returned (.bool (twoH l i)) ∧ W = w') := fun i hi W hk => rtwo_any7 A n c l i W hl h32 (hr.keep0 hk) hi
  have HT0 : Hid (∀ W, Keep [] w W → Calls Try.prog 126 #[.slice A n c, .int .i64 0] W fun e w' => e = .returned (.bool (twoH l 0)) ∧ W = w') := HTW.out 0 (by decide)
  have HT2 : Hid (∀ W, Keep [] w W → Calls Try.prog 126 #[.slice A n c, .int .i64 2] W fun e w' => e = .returned (.bool (twoH l 2)) ∧ W = w') := HTW.out 2 (by decide)
  have HT4 : Hid (∀ W, Keep [] w W → Calls Try.prog 126 #[.slice A n c, .int .i64 4] W fun e w' => e = .returned (.bool (twoH l 4)) ∧ W = w') := HTW.out 4 (by decide)
  have HT6 : Hid (∀ W, Keep [] w W → Calls Try.prog 126 #[.slice A n c, .int .i64 6] W fun e w' => e = .returned (.bool (twoH l 6)) ∧ W = w') := HTW.out 6 (by decide)
  have HT8 : Hid (∀ W, Keep [] w W → Calls Try.prog 126 #[.slice A n c, .int .i64 8] W fun e w' => e = .returned (.bool (twoH l 8)) ∧ W = w') := HTW.out 8 (by decide)
  have HA0 : Hid (∀ W, Keep [] w W → Calls Try.prog 123 #[.slice A n c, .int .i64 0] W fun e w' => e = .returned (.int .u32 ((atH l 0 : Nat) : Int)) ∧ W = w') := HAT.out 0 (by decide)
  have HA2 : Hid (∀ W, Keep [] w W → Calls Try.prog 123 #[.slice A n c, .int .i64 2] W fun e w' => e = .returned (.int .u32 ((atH l 2 : Nat) : Int)) ∧ W = w') := HAT.out 2 (by decide)
  have HA4 : Hid (∀ W, Keep [] w W → Calls Try.prog 123 #[.slice A n c, .int .i64 4] W fun e w' => e = .returned (.int .u32 ((atH l 4 : Nat) : Int)) ∧ W = w') := HAT.out 4 (by decide)
  have HA6 : Hid (∀ W, Keep [] w W → Calls Try.prog 123 #[.slice A n c, .int .i64 6] W fun e w' => e = .returned (.int .u32 ((atH l 6 : Nat) : Int)) ∧ W = w') := HAT.out 6 (by decide)
  have HA8 : Hid (∀ W, Keep [] w W → Calls Try.prog 123 #[.slice A n c, .int .i64 8] W fun e w' => e = .returned (.int .u32 ((atH l 8 : Nat) : Int)) ∧ W = w') := HAT.out 8 (by decide)
  have HL32 : Hid (∀ i, atH l i < 4294967296) := fun i => atH_lt h32 i
  obtain ⟨W0, hW⟩ : ∃ W0, (w.alloc (.cells #[.int .u32 0, .int .u32 0, .int .u32 0, .bool false, .bool false, .int .i64 0] 145)).alloc (.cells #[.int .u32 0, .int .u32 0, .int .u32 0, .bool false, .bool false, .int .i64 0] 145) = W0 := ⟨_, rfl⟩
  have K0 : Keep [] w W0 := by rw [← hW]; exact ((Keep.refl [] w).alloc _).alloc _
  have B2 : Blk W0 w.heap.size 145 #[.int .u32 0, .int .u32 0, .int .u32 0, .bool false, .bool false, .int .i64 0] := by rw [← hW]; exact (Blk.new _ _ _).alloc _
  have B3 : Blk W0 (w.heap.size + 1) 145 #[.int .u32 0, .int .u32 0, .int .u32 0, .bool false, .bool false, .int .i64 0] := by
    rw [← hW]
    have h := Blk.new (w.alloc (.cells #[.int .u32 0, .int .u32 0, .int .u32 0, .bool false, .bool false, .int .i64 0] 145)) 145 #[.int .u32 0, .int .u32 0, .int .u32 0, .bool false, .bool false, .int .i64 0]
    simpa using h
  have HW := Lib.hid hW
  have HB2 := Lib.hid B2
  have HK0 := Lib.hid K0
  clear hr hl h32 hW HTW B2
  go_enter Try.func86, Try.ntmps86
  go_wp2_with (refine stop_store 145 (.tmp 3) (.tmp 5) rfl ?_)
  constructor
  rw [HW.out]
  refine wpList_store_all rfl 145 (.tmp 3) (.tmp 5) rfl rfl rfl (t := 145) (cs := #[.int .u32 0, .int .u32 0, .int .u32 0, .bool false, .bool false, .int .i64 0]) (vs := [.int .u32 0, .int .u32 0, .int .u32 0, .bool false, .bool false, .int .i64 0]) HA.out.2 B3 (by simp [Value.oneCell']) rfl ?_
  intro w1 d1 k1
  have hl3 := d1.lt
  have HB3 := Lib.hid d1
  have HB21 := Lib.hid (HB2.out.keep k1 (by simp))
  have HK1 : Hid (Keep [] w w1) := K0.trans k1 (fun y hy hl => by simp only [List.mem_cons, List.not_mem_nil, or_false] at hy; omega)
  have HLO : Hid (w.heap.size < w.heap.size + 1) := Nat.lt_succ_self _
  clear HW B3 K0 d1 k1 HB2
  have HNE : Hid (w.heap.size ≠ w.heap.size + 1 ∧ w.heap.size ≤ w.heap.size + 1) := ⟨by omega, by omega⟩
  generalize w.heap.size + 1 = B3 at *
  go_upto_region 2 with fail
  simp only [Act.put]
  go_cut [4] from 5 (fun _ wx => Blk wx B3 145 #[.int .u32 0, .int .u32 0, .int .u32 0, .bool (validH l), .bool false, .int .i64 0] ∧ Keep [B3] w1 wx)
  case first =>
    have c3 : w1.cell? ⟨B3, 3, none⟩ = some (.bool false) := HB3.out.cell 3
    have f3 := HB3.out.frozen 3
    go_wp2_with fail
    refine (HT0.out w1 HK1.out).mono ?_
    rintro e w' ⟨rfl, rfl⟩
    cases h0 : twoH l 0 with
    | false =>
      have hv : validH l = false := by unfold validH; simp [h0]
      have HB9 : Hid (Blk (w1.setCell ⟨B3, 3, none⟩ (.bool false)) B3 145 #[.int .u32 0, .int .u32 0, .int .u32 0, .bool (validH l), .bool false, .int .i64 0]) := by rw [hv]; exact HB3.out.set_ 3 _
      have HK9 : Hid (Keep [B3] w1 (w1.setCell ⟨B3, 3, none⟩ (.bool false))) := keep_set _ B3 3 _
      go_wp2_with fail
      go_meet
      case rel => exact ⟨HB9.out, HK9.out⟩
    | true =>
      go_wp2_with fail
      refine (HT2.out w1 HK1.out).mono ?_
      rintro e w' ⟨rfl, rfl⟩
      cases h2 : twoH l 2 with
      | false =>
        have hv : validH l = false := by unfold validH; simp [h0, h2]
        have HB9 : Hid (Blk (w1.setCell ⟨B3, 3, none⟩ (.bool false)) B3 145 #[.int .u32 0, .int .u32 0, .int .u32 0, .bool (validH l), .bool false, .int .i64 0]) := by rw [hv]; exact HB3.out.set_ 3 _
        have HK9 : Hid (Keep [B3] w1 (w1.setCell ⟨B3, 3, none⟩ (.bool false))) := keep_set _ B3 3 _
        go_wp2_with fail
        go_meet
        case rel => exact ⟨HB9.out, HK9.out⟩
      | true =>
        go_wp2_with fail
        refine (HT4.out w1 HK1.out).mono ?_
        rintro e w' ⟨rfl, rfl⟩
        cases h4 : twoH l 4 with
        | false =>
          have hv : validH l = false := by unfold validH; simp [h0, h2, h4]
          have HB9 : Hid (Blk (w1.setCell ⟨B3, 3, none⟩ (.bool false)) B3 145 #[.int .u32 0, .int .u32 0, .int .u32 0, .bool (validH l), .bool false, .int .i64 0]) := by rw [hv]; exact HB3.out.set_ 3 _
          have HK9 : Hid (Keep [B3] w1 (w1.setCell ⟨B3, 3, none⟩ (.bool false))) := keep_set _ B3 3 _
          go_wp2_with fail
          go_meet
          case rel => exact ⟨HB9.out, HK9.out⟩
        | true =>
          go_wp2_with fail
          refine (HT6.out w1 HK1.out).mono ?_
          rintro e w' ⟨rfl, rfl⟩
          cases h6 : twoH l 6 with
          | false =>
            have hv : validH l = false := by unfold validH; simp [h0, h2, h4, h6]
            have HB9 : Hid (Blk (w1.setCell ⟨B3, 3, none⟩ (.bool false)) B3 145 #[.int .u32 0, .int .u32 0, .int .u32 0, .bool (validH l), .bool false, .int .i64 0]) := by rw [hv]; exact HB3.out.set_ 3 _
            have HK9 : Hid (Keep [B3] w1 (w1.setCell ⟨B3, 3, none⟩ (.bool false))) := keep_set _ B3 3 _
            go_wp2_with fail
            go_meet
            case rel => exact ⟨HB9.out, HK9.out⟩
          | true =>
            go_wp2_with fail
            refine (HA6.out w1 HK1.out).mono ?_
            rintro e w' ⟨rfl, rfl⟩
            have hv : validH l = (((atH l 6 : Nat) : Int) == 1668246893) := by rw [show (((atH l 6 : Nat) : Int) == 1668246893) = (atH l 6 == 1668246893) from nat_beq _ 1668246893]; unfold validH; rw [h0, h2, h4, h6]; simp
            clear h0 h2 h4 h6
            have HB9 : Hid (Blk (w1.setCell ⟨B3, 3, none⟩ (.bool (((atH l 6 : Nat) : Int) == 1668246893))) B3 145 #[.int .u32 0, .int .u32 0, .int .u32 0, .bool (validH l), .bool false, .int .i64 0]) := by rw [hv]; exact HB3.out.set_ 3 _
            have HK9 : Hid (Keep [B3] w1 (w1.setCell ⟨B3, 3, none⟩ (.bool (((atH l 6 : Nat) : Int) == 1668246893)))) := keep_set _ B3 3 _
            go_wp2_with fail
            go_meet
            case rel => exact ⟨HB9.out, HK9.out⟩
  case rest =>
    obtain ⟨hb9, k19⟩ := hcut
    generalize wc = w9 at *
    have HB9 := Lib.hid hb9
    have HK9 : Hid (Keep [] w w9) := HK1.out.trans k19 (fun y hy hl => by have := HNE.out; simp only [List.mem_cons, List.not_mem_nil, or_false] at hy; omega)
    have HB29 := Lib.hid (HB21.out.keep k19 (by have := HNE.out; simp; omega))
    clear hb9 k19 HB21 HB3 HT0 HT2 HT4 HT6 HA6
    go_upto_region 3 with fail
    go_cut [4] from 5 (fun _ wx => Blk wx B3 145 #[.int .u32 0, .int .u32 0, .int .u32 0, .bool (validH l), .bool (confH l), .int .i64 0] ∧ Keep [B3] w9 wx)
    case first =>
      have hb9 := HB9.out
      have hl9 := hb9.lt
      have c4 : w9.cell? ⟨B3, 4, none⟩ = some (.bool false) := hb9.cell 4
      have f4 := hb9.frozen 4
      cases hv0 : validH l with
      | false =>
        have c3 : w9.cell? ⟨B3, 3, none⟩ = some (.bool false) := by rw [← hv0]; exact hb9.cell 3
        have hv : confH l = false := by unfold confH; rw [hv0]; rfl
        clear hb9
        have HB9 : Hid (Blk (w9.setCell ⟨B3, 4, none⟩ (.bool false)) B3 145 #[.int .u32 0, .int .u32 0, .int .u32 0, .bool (validH l), .bool (confH l), .int .i64 0]) := by rw [hv]; exact HB9.out.set_ 4 _
        have HK9 : Hid (Keep [B3] w9 (w9.setCell ⟨B3, 4, none⟩ (.bool false))) := keep_set _ B3 4 _
        go_wp2_with fail
        go_meet
        case rel => exact ⟨HB9.out, HK9.out⟩
      | true =>
        have c3 : w9.cell? ⟨B3, 3, none⟩ = some (.bool true) := by rw [← hv0]; exact hb9.cell 3
        clear hb9
        go_wp2_with fail
        refine (HT8.out w9 HK9.out).mono ?_
        rintro e w' ⟨rfl, rfl⟩
        cases h8 : twoH l 8 with
        | false =>
          have hv : confH l = false := by unfold confH; rw [h8]; simp
          have HB9 : Hid (Blk (w9.setCell ⟨B3, 4, none⟩ (.bool false)) B3 145 #[.int .u32 0, .int .u32 0, .int .u32 0, .bool (validH l), .bool (confH l), .int .i64 0]) := by rw [hv]; exact HB9.out.set_ 4 _
          have HK9 : Hid (Keep [B3] w9 (w9.setCell ⟨B3, 4, none⟩ (.bool false))) := keep_set _ B3 4 _
          go_wp2_with fail
          go_meet
          case rel => exact ⟨HB9.out, HK9.out⟩
        | true =>
          go_wp2_with fail
          refine (HA8.out w9 HK9.out).mono ?_
          rintro e w' ⟨rfl, rfl⟩
          have hv : confH l = (((atH l 8 : Nat) : Int) == 1668247142) := by rw [show (((atH l 8 : Nat) : Int) == 1668247142) = (atH l 8 == 1668247142) from nat_beq _ 1668247142]; unfold confH; rw [hv0, h8]; simp
          clear h8
          have HB9 : Hid (Blk (w9.setCell ⟨B3, 4, none⟩ (.bool (((atH l 8 : Nat) : Int) == 1668247142))) B3 145 #[.int .u32 0, .int .u32 0, .int .u32 0, .bool (validH l), .bool (confH l), .int .i64 0]) := by rw [hv]; exact HB9.out.set_ 4 _
          have HK9 : Hid (Keep [B3] w9 (w9.setCell ⟨B3, 4, none⟩ (.bool (((atH l 8 : Nat) : Int) == 1668247142)))) := keep_set _ B3 4 _
          go_wp2_with fail
          go_meet
          case rel => exact ⟨HB9.out, HK9.out⟩
    case rest =>
      obtain ⟨hb10, k910⟩ := hcut
      generalize wc = w10 at *
      have HB10 := Lib.hid hb10
      have HK10 : Hid (Keep [] w w10) := HK9.out.trans k910 (fun y hy hl => by have := HNE.out; simp only [List.mem_cons, List.not_mem_nil, or_false] at hy; omega)
      have HB210 := Lib.hid (HB29.out.keep k910 (by have := HNE.out; simp; omega))
      have hl10 := hb10.lt
      have c3 : w10.cell? ⟨B3, 3, none⟩ = some (.bool (validH l)) := hb10.cell 3
      have c0 : w10.cell? ⟨B3, 0, none⟩ = some (.int .u32 0) := hb10.cell 0
      have c1 : w10.cell? ⟨B3, 1, none⟩ = some (.int .u32 0) := hb10.cell 1
      have c2 : w10.cell? ⟨B3, 2, none⟩ = some (.int .u32 0) := hb10.cell 2
      have f0 := hb10.frozen 0
      have f1 := hb10.frozen 1
      have f2 := hb10.frozen 2
      clear hb10 k910 HB9 HK9 HB29
      go_upto_if 39 with fail
      go_cut [4] from 5 (fun _ wx => Blk wx B3 145 (hdCells { headH l with trials := 0 }).toArray ∧ Keep [B3] w10 wx)
      case first =>
        cases hv : validH l with
        | false =>
          have HB11 : Hid (Blk w10 B3 145 (hdCells { headH l with trials := 0 }).toArray) := by
            have h := HB10.out
            unfold headH
            rw [hv] at h ⊢
            exact h
          go_wp2_with fail
          go_meet
          case rel => exact ⟨HB11.out, (Keep.refl [] w10).mono (by simp)⟩
        | true =>
          have KA : Hid (Keep [] w (w10.setCell ⟨B3, 0, none⟩ (.int .u32 ((atH l 0 : Nat) : Int)))) := HK10.out.trans (keep_set _ B3 0 _) (fun y hy hl => by have := HNE.out; simp only [List.mem_cons, List.not_mem_nil, or_false] at hy; omega)
          have KB : Hid (Keep [] w ((w10.setCell ⟨B3, 0, none⟩ (.int .u32 ((atH l 0 : Nat) : Int))).setCell ⟨B3, 1, none⟩ (.int .u32 ((atH l 2 : Nat) : Int)))) := KA.out.trans (keep_set _ B3 1 _) (fun y hy hl => by have := HNE.out; simp only [List.mem_cons, List.not_mem_nil, or_false] at hy; omega)
          have HB11 : Hid (Blk (((w10.setCell ⟨B3, 0, none⟩ (.int .u32 ((atH l 0 : Nat) : Int))).setCell ⟨B3, 1, none⟩ (.int .u32 ((atH l 2 : Nat) : Int))).setCell ⟨B3, 2, none⟩ (.int .u32 ((atH l 4 : Nat) : Int))) B3 145 (hdCells { headH l with trials := 0 }).toArray) := by
            have h := ((HB10.out.set_ 0 (.int .u32 ((atH l 0 : Nat) : Int))).set_ 1 (.int .u32 ((atH l 2 : Nat) : Int))).set_ 2 (.int .u32 ((atH l 4 : Nat) : Int))
            unfold headH
            rw [hv] at h ⊢
            exact h
          have HK11 : Hid (Keep [B3] w10 (((w10.setCell ⟨B3, 0, none⟩ (.int .u32 ((atH l 0 : Nat) : Int))).setCell ⟨B3, 1, none⟩ (.int .u32 ((atH l 2 : Nat) : Int))).setCell ⟨B3, 2, none⟩ (.int .u32 ((atH l 4 : Nat) : Int)))) := ((keep_set _ B3 0 _).trans (keep_set _ B3 1 _) (fun y hy _ => hy)).trans (keep_set _ B3 2 _) (fun y hy _ => hy)
          go_wp2_with fail
          refine (HA0.out w10 HK10.out).mono ?_
          rintro e w' ⟨rfl, rfl⟩
          go_wp2_with fail
          refine (HA2.out _ KA.out).mono ?_
          rintro e w' ⟨rfl, rfl⟩
          go_wp2_with fail
          refine (HA4.out _ KB.out).mono ?_
          rintro e w' ⟨rfl, rfl⟩
          go_wp2_with fail
          go_meet
          case rel => exact ⟨HB11.out, HK11.out⟩
      case rest =>
        obtain ⟨hb11, k1011⟩ := hcut
        generalize wc = w11 at *
        have HB11 := Lib.hid hb11
        have HK11 : Hid (Keep [] w w11) := HK10.out.trans k1011 (fun y hy hl => by have := HNE.out; simp only [List.mem_cons, List.not_mem_nil, or_false] at hy; omega)
        have HB211 := Lib.hid (HB210.out.keep k1011 (by have := HNE.out; simp; omega))
        clear hb11 k1011 HB10 HK10 HB210 c0 c1 c2 c3 f0 f1 f2 hl10
        go_wp2_with fail
        go_loopw [4] (fun v4 wr => ∃ k : Nat, k ≤ 3 ∧ v4 = .int .i64 ((10 + k : Nat) : Int) ∧ Blk wr B3 145 (hdCells { headH l with trials := trialsH l k }).toArray ∧ Keep [] w wr ∧ Blk wr w.heap.size 145 #[.int .u32 0, .int .u32 0, .int .u32 0, .bool false, .bool false, .int .i64 0]) (fun v4 _ => 13 - (intOf v4).toNat)
        case atStart => exact ⟨0, Nat.zero_le _, rfl, HB11.out, HK11.out, HB211.out⟩
        case round =>
          obtain ⟨k, hk, rfl, hb, hkp, hb2⟩ := hrel
          by_cases hlt : k < 3
          · have hwk : IntKind.i64.wrap (((10 + k : Nat) : Int) + 1) = ((10 + (k + 1) : Nat) : Int) := by rw [show ((10 + k : Nat) : Int) + 1 = ((10 + (k + 1) : Nat) : Int) by omega]; exact IntWalk.i64_in _ (by omega)
            have q13 : decide (((10 + k : Nat) : Int) < 13) = true := decide_eq_true (by omega)
            have p13 : (10 + k < 13) = True := eq_true (by omega)
            have HAK := Lib.hid (HAT.out (10 + k) (by omega) wr hkp)
            have HS : Hid (trialsH l (k + 1) = trialsH l k + usedH l k) := show _ = _ from rfl
            have htk := trialsH_le l k
            have cb5 : wr.cell? ⟨B3, 5, none⟩ = some (.int .i64 ((trialsH l k : Nat) : Int)) := hb.cell 5
            have fb5 := hb.frozen 5
            have hl8 := hb.lt
            have HB := Lib.hid hb
            have HKP := Lib.hid hkp
            have HB2 := Lib.hid hb2
            have hw5 : IntKind.i64.wrap (((trialsH l k : Nat) : Int) + 1) = ((trialsH l k + 1 : Nat) : Int) := by rw [show ((trialsH l k : Nat) : Int) + 1 = ((trialsH l k + 1 : Nat) : Int) by omega]; exact IntWalk.i64_in _ (by omega)
            have HM : Hid (13 - (10 + (k + 1)) < 13 - (10 + k)) := by show _ < _; omega
            clear hb hkp hb2
            by_cases hu : atH l (10 + k) = 4294967295
            · have HS2 : Hid (trialsH l (k + 1) = trialsH l k) := by show _ = _; rw [HS.out, usedH, if_pos hu, Nat.add_zero]
              rw [hu] at HAK
              clear hu
              go_wp2_with fail
              refine HAK.out.mono ?_
              rintro e w' ⟨rfl, rfl⟩
              go_wp2
              go_roundw
              case rel => exact ⟨k + 1, by omega, by go_num, by rw [HS2.out]; exact HB.out, HKP.out, HB2.out⟩
              case measure => simp [intOf]; omega
            · have HS2 : Hid (trialsH l (k + 1) = trialsH l k + 1) := by show _ = _; rw [HS.out, usedH, if_neg hu]
              have hne : ((atH l (10 + k) : Nat) : Int) ≠ 4294967295 := by omega
              have hne1 : (((atH l (10 + k) : Nat) : Int) == 4294967295) = false := beq_eq_false_iff_ne.2 hne
              have hne2 : (((atH l (10 + k) : Nat) : Int) = 4294967295) = False := eq_false hne
              have hne3 : (atH l (10 + k) = 4294967295) = False := eq_false hu
              generalize atH l (10 + k) = x at *
              clear hu hne
              go_wp2_with fail
              refine HAK.out.mono ?_
              rintro e w' ⟨rfl, rfl⟩
              go_wp2
              have HB' : Hid (Blk (wr.setCell ⟨B3, 5, none⟩ (.int .i64 ((trialsH l k + 1 : Nat) : Int))) B3 145 (hdCells { headH l with trials := trialsH l (k + 1) }).toArray) := by rw [HS2.out]; exact HB.out.set_ 5 _
              have HK' : Hid (Keep [] w (wr.setCell ⟨B3, 5, none⟩ (.int .i64 ((trialsH l k + 1 : Nat) : Int)))) := HKP.out.trans (keep_set _ B3 5 _) (fun y hy hl => by have := HNE.out; simp only [List.mem_cons, List.not_mem_nil, or_false] at hy; omega)
              have HB2' : Hid (Blk (wr.setCell ⟨B3, 5, none⟩ (.int .i64 ((trialsH l k + 1 : Nat) : Int))) w.heap.size 145 #[.int .u32 0, .int .u32 0, .int .u32 0, .bool false, .bool false, .int .i64 0]) := HB2.out.far (by have := HNE.out; exact this.1) _
              go_roundw
              case rel => exact ⟨k + 1, by omega, by go_num, HB'.out, HK'.out, HB2'.out⟩
              case measure => simp [intOf]; omega
          · obtain rfl : k = 3 := by omega
            have HBF : Hid (Blk wr B3 145 (hdCells (headH l)).toArray) := hb
            have HKP := Lib.hid hkp
            clear hb hkp
            go_wp2_with (first
              | (refine wpList_load_agg rfl 145 (.tmp 3) rfl rfl (cs := hdCells (headH l)) HA.out ?_ ?_; exact HBF.out.cellsAt)
              | (refine stop_store 145 (.tmp 2) (.tmp 61) rfl ?_))
            constructor
            refine wpList_store_all rfl 145 (.tmp 2) (.tmp 61) rfl rfl rfl (t := 145) (cs := #[.int .u32 0, .int .u32 0, .int .u32 0, .bool false, .bool false, .int .i64 0]) (vs := hdCells (headH l)) HA.out.2 hb2 (by simp [Value.oneCell']) rfl ?_
            intro w12 d12 k12
            have HD := Lib.hid d12
            have HKF : Hid (Keep [] w w12) := HKP.out.trans k12 (fun y hy hl => by simp only [List.mem_cons, List.not_mem_nil, or_false] at hy; omega)
            clear d12 k12 hb2
            go_wp2
            refine bodyPost_ret (results_blk rfl _ rfl (vs := hdCells (headH l)) HD.out HA.out) rfl ?_
            exact ⟨rfl, HKF.out⟩
end Go.Proofs.Yteanpgkonhdbpaa
