/- A bank's header in plain words; pair's Of, Right, Is, walked. No condition. -/
import Derived.Test.YteanpgkonhdbpaaJrStep
import Derived.Test.YteanpgkonhdbpaaJrRead
import Derived.Test.YteanpgkonhdbpaaFlow
namespace Go.Proofs.Yteanpgkonhdbpaa
open Go.RowKit

def atH (l : List Nat) (i : Nat) : Nat := l.getD i 4294967295
def twoH (l : List Nat) (i : Nat) : Bool := atH l (i + 1) == cplJ (atH l i)
def validH (l : List Nat) : Bool := twoH l 0 && twoH l 2 && twoH l 4 && twoH l 6 && atH l 6 == 1668246893
def confH (l : List Nat) : Bool := validH l && twoH l 8 && atH l 8 == 1668247142
def usedH (l : List Nat) (i : Nat) : Nat := if atH l (10 + i) = 4294967295 then 0 else 1
def trialsH (l : List Nat) : Nat → Nat
  | 0 => 0
  | i + 1 => trialsH l i + usedH l i
structure HdS where
  seq : Nat
  long : Nat
  check : Nat
  valid : Bool
  conf : Bool
  trials : Nat
def headH (l : List Nat) : HdS := ⟨if validH l then atH l 0 else 0, if validH l then atH l 2 else 0, if validH l then atH l 4 else 0, validH l, confH l, trialsH l 3⟩
abbrev hdCells (h : HdS) : List Value := [.int .u32 (h.seq : Int), .int .u32 (h.long : Int), .int .u32 (h.check : Int), .bool h.valid, .bool h.conf, .int .i64 (h.trials : Int)]
theorem atH_lt {l : List Nat} (h : ∀ x ∈ l, x < 4294967296) (i : Nat) : atH l i < 4294967296 := by
  unfold atH
  rw [List.getD_eq_getElem?_getD]
  cases hx : l[i]? with
  | none => decide
  | some x => exact h x (List.mem_of_getElem? hx)
theorem nat_beq (a b : Nat) : (((a : Int) == (b : Int))) = (a == b) := by
  rw [Bool.eq_iff_iff, beq_iff_eq, beq_iff_eq]
  omega
theorem nat_dec (a b : Nat) : (decide ((a : Int) = (b : Int))) = (a == b) := by
  rw [Bool.eq_iff_iff, decide_eq_true_eq, beq_iff_eq]
  omega

set_option maxRecDepth 100000 in
set_option maxHeartbeats 1000000 in
theorem pof_any (a : Nat) (w : World) (ha : a < 4294967296) :
    Calls Try.prog 132 #[.int .u32 (a : Int)] w fun e w' => e = .returned (.agg #[.int .u32 (a : Int), .int .u32 ((cplJ a : Nat) : Int)]) ∧ Keep [] w w' := by
  have hn : bits .xor .u32 IntKind.u32.max (a : Int) = ((cplJ a : Nat) : Int) := u32_not ha
  have hn2 : bits .xor .u32 (if IntKind.u32.signed = true then -1 else IntKind.u32.max) (a : Int) = ((cplJ a : Nat) : Int) := u32_not ha
  have HA : Hid (AggOf Try.prog 185 2) := ⟨by kernel_rfl, by kernel_rfl⟩
  clear ha
  go_enter Try.func132, Try.ntmps132
  go_wp2
  refine bodyPost_ret (results_blk rfl _ rfl (vs := [.int .u32 (a : Int), .int .u32 ((cplJ a : Nat) : Int)]) (Blk.new _ _ _) HA.out) rfl ?_
  exact ⟨rfl, (Keep.refl [] w).alloc _⟩

set_option maxRecDepth 100000 in
set_option maxHeartbeats 1000000 in
theorem pright_any (a b : Nat) (w : World) (ha : a < 4294967296) :
    Calls Try.prog 116 #[.agg #[.int .u32 (a : Int), .int .u32 (b : Int)]] w fun e w' => e = .returned (.bool (b == cplJ a)) ∧ Keep [] w w' := by
  have hn : bits .xor .u32 IntKind.u32.max (a : Int) = ((cplJ a : Nat) : Int) := u32_not ha
  have hn2 : bits .xor .u32 (if IntKind.u32.signed = true then -1 else IntKind.u32.max) (a : Int) = ((cplJ a : Nat) : Int) := u32_not ha
  have hq := nat_beq b (cplJ a)
  have K1 := Lib.hid ((Keep.refl [] w).alloc (.cells #[.int .u32 (a : Int), .int .u32 (b : Int)] 185))
  clear ha
  go_enter Try.func116, Try.ntmps116
  go_wp2
  go_ret
  exact ⟨rfl, K1.out⟩

set_option maxRecDepth 100000 in
set_option maxHeartbeats 1000000 in
theorem pis_any (a b x : Nat) (w : World) (hx : x < 4294967296) :
    Calls Try.prog 117 #[.agg #[.int .u32 (a : Int), .int .u32 (b : Int)], .int .u32 (x : Int)] w fun e w' => e = .returned (.bool (a == x && b == cplJ x)) ∧ Keep [] w w' := by
  have HO : Hid (∀ W, Calls Try.prog 132 #[.int .u32 (x : Int)] W fun e w' => e = .returned (.agg #[.int .u32 (x : Int), .int .u32 ((cplJ x : Nat) : Int)]) ∧ Keep [] W w') := fun W => pof_any x W hx
  have hF : ∀ W, Keep [] (w.alloc (.cells #[.int .u32 (a : Int), .int .u32 (b : Int)] 185)) W → W.cell? ⟨w.heap.size, 0, none⟩ = some (.int .u32 (a : Int)) ∧ W.cell? ⟨w.heap.size, 1, none⟩ = some (.int .u32 (b : Int)) ∧ True := fun W hk => by
    have h := (Blk.new w 185 #[.int .u32 (a : Int), .int .u32 (b : Int)]).keep0 hk
    exact ⟨h.cell 0, h.cell 1, trivial⟩
  have K1 := Lib.hid ((Keep.refl [] w).alloc (.cells #[.int .u32 (a : Int), .int .u32 (b : Int)] 185))
  have q0 := nat_beq a x
  have q1 := nat_beq b (cplJ x)
  clear hx
  go_enter Try.func117, Try.ntmps117
  go_upto_region 1 with fail
  refine wp_region_flow (Keep [] (w.alloc (.cells #[.int .u32 (a : Int), .int .u32 (b : Int)] 185))) rfl (by kernel_rfl) (Keep.refl _ _).drew ?_
  (refine fl_val (v := ?_) (by rfl) ?_ ?_; rotate_left; (intro w' hS; obtain ⟨f0,f1,f2⟩ := hF w' hS; go_simp; with_reducible rfl); simp only [Act.put, List.setIfInBounds_toArray, List.set_cons_zero, List.set_cons_succ])
  (refine fl_val (v := ?_) (by rfl) ?_ ?_; rotate_left; (intro w' hS; obtain ⟨f0,f1,f2⟩ := hF w' hS; go_simp; with_reducible rfl); simp only [Act.put, List.setIfInBounds_toArray, List.set_cons_zero, List.set_cons_succ])
  refine fl_call (f := 132) (v := .agg #[.int .u32 (x : Int), .int .u32 ((cplJ x : Nat) : Int)]) (by rfl) rfl (by simp only [List.map_toArray, List.map_cons, List.map_nil]; rfl) Try.func132 (by kernel_rfl) (by kernel_rfl) (fun w' hS => ((HO.out w').mono fun e w'' he => ⟨he.1, hS.then he.2⟩)) ?_; simp only [Act.put, List.setIfInBounds_toArray, List.set_cons_zero, List.set_cons_succ]
  refine fl_val (v := .bool (a == x && b == cplJ x)) (by rfl) (fun w' hS => by go_simp; by_cases h1 : a = x <;> by_cases h2 : b = cplJ x <;> simp [h1, h2]) ?_
  simp only [Act.put, List.setIfInBounds_toArray, List.set_cons_zero, List.set_cons_succ]
  (refine fl_val (v := ?_) (by rfl) ?_ ?_; rotate_left; (intro w' hS; obtain ⟨f0,f1,f2⟩ := hF w' hS; go_simp; with_reducible rfl); simp only [Act.put, List.setIfInBounds_toArray, List.set_cons_zero, List.set_cons_succ])
  refine fl_nil ?_
  intro w4 hS
  go_wp2
  go_ret
  exact ⟨rfl, K1.out.then hS⟩
end Go.Proofs.Yteanpgkonhdbpaa
