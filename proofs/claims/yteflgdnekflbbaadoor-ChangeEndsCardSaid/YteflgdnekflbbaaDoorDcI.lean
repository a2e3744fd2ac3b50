/- The document's search for an edge; walked. No condition. The document's end of a change where another mode is asked for; walked. Condition: what begin does then. The document's calls one behind the other, tied up. Condition: an admitted image. Another mode is asked for, in the document; walked. Condition: an admitted image. Which tasks are open and active, in the document; a new engine; walked. Condition: an admitted image; both engines tell the same. -/
import Derived.Test.YteflgdnekflbbaaDoorDcD
import Derived.Test.YteflgdnekflbbaaDoorCertF
namespace Go.Proofs.YteflgdnekflbbaaDoor
open Go.RowKit
attribute [local go_sem] Oper.semAt_some

end Go.Proofs.YteflgdnekflbbaaDoor

namespace Go.Proofs.YteflgdnekflbbaaDoor
open Go.RowKit
attribute [local go_sem] Oper.semAt_some

section
variable {W0 w : World} {V : DcV} {X : ChX} {d : DcS} {A : Option Addr} {n p : Nat} {xs : List Value}
end
end Go.Proofs.YteflgdnekflbbaaDoor

namespace Go.Proofs.YteflgdnekflbbaaDoor
open Go.RowKit
attribute [local go_sem] Oper.semAt_some

theorem ChG.to {X : ChX} (g : ChG X) {k : Nat} (hk : k < X.x.edges.length) : (edg X.x k).to = (eTo X.x k : Int) := by
  have := (g.ft k hk).2.1
  unfold eTo
  omega
theorem ChG.prot {X : ChX} (g : ChG X) {k : Nat} (hk : k < X.x.edges.length) : (edg X.x k).prot = (ePr X.x k : Int) := by
  have := (g.pr k hk).1
  unfold ePr at *
  omega
section
variable {W0 w : World} {V : DcV} {X : ChX} {d : DcS} {A : Option Addr} {n p : Nat} {xs : List Value} (g : ChG X) (hX : DcX W0 V X) (K : Keep [] W0 w)
include g hX K
end
theorem tick_ph {X : ChX} {s : EnS} {d : DcS} (h : RelE X s d) (hp : d.ph ≠ 0) : ∃ k, k < X.x.edges.length ∧ d.edge = some k := by
  rcases h.ph_edge with ⟨_, h0, _⟩ | ⟨k, hk, he, _⟩
  · exact absurd h0 hp
  · exact ⟨k, hk, he⟩
section
variable {w : World} {V : DcV} {X : ChX} {d : DcS}
end
end Go.Proofs.YteflgdnekflbbaaDoor

namespace Go.Proofs.YteflgdnekflbbaaDoor
open Go.RowKit
attribute [local go_sem] Oper.semAt_some

section
variable {w : World} {V : DcV} {X : ChX} {d : DcS}
end
end Go.Proofs.YteflgdnekflbbaaDoor

namespace Go.Proofs.YteflgdnekflbbaaDoor
open Go.RowKit
attribute [local go_sem] Oper.semAt_some

theorem DcX.mode {W0 : World} {V : DcV} {X : ChX} (h : DcX W0 V X) (h0 : 0 < X.x.modes.length) : ∃ bb o, V.v.ma = some ⟨bb, o, none⟩ ∧ ∀ (k : Nat), k < X.x.modes.length → ∀ w', Keep [] W0 w' → w'.cell? ⟨bb, o + k * 2, none⟩ = some (.int .u32 (setOf10 X.x (k : Int) : Int)) := by
  obtain ⟨bb, o, hA, hb, hc⟩ := (h.img W0 (Keep.refl _ _)).mode h0
  refine ⟨bb, o, hA, fun k hk w' kk => ?_⟩
  obtain ⟨A, c, h1, _⟩ := hc k hk
  have h2 := h1 0 _ rfl
  rw [Nat.add_zero] at h2
  rw [setOf10_get hk]
  exact (kk.cell (p := ⟨bb, o + k * 2, none⟩) hb (by simp)).trans h2
/-- What the loop has found behind the first k tasks. -/
def opnK (X : ChX) (d : DcS) (e : Nat) (k : Nat) : Nat :=
  ((List.range k).filter (fun (i : Nat) => has10 (setOf10 X.x (eTo X.x e : Int)) (i : Int) && (has10 (setOf10 X.x (d.mode : Int)) (i : Int) || decide (eOff X.x e i ≤ ((d.now - d.since : Nat) : Int))))).foldl (fun (o i : Nat) => o + 2 ^ i) 0
theorem opnK_lt (X : ChX) (d : DcS) (e k : Nat) : opnK X d e k < 2 ^ k := (sumBits_bit _ k).1
theorem opnK_next (X : ChX) (d : DcS) (e k : Nat) : opnK X d e (k + 1) = (if (has10 (setOf10 X.x (eTo X.x e : Int)) (k : Int) && (has10 (setOf10 X.x (d.mode : Int)) (k : Int) || decide (eOff X.x e k ≤ ((d.now - d.since : Nat) : Int)))) = true then opnK X d e k + 2 ^ k else opnK X d e k) := by
  unfold opnK
  rw [List.range_succ, List.filter_append, List.foldl_append]
  split
  · rename_i h
    rw [List.filter_cons_of_pos (by simpa using h)]; rfl
  · rename_i h
    rw [List.filter_cons_of_neg (by simpa using h)]; rfl
theorem opn_add {a k : Nat} (hk : k < 16) (ha : a < 2 ^ k) : ((a : Int) + 2 ^ k % 4294967296) % 4294967296 = ((a + 2 ^ k : Nat) : Int) := by
  have h1 : 2 ^ k ≤ 2 ^ 15 := Nat.pow_le_pow_right (by decide) (by omega)
  have h2 : a + 2 ^ k < 4294967296 := by omega
  rw [pow_mod32 (by omega), ← Int.natCast_add]
  exact Int.emod_eq_of_lt (Int.natCast_nonneg _) (by omega)
section
variable {w : World} {V : DcV} {X : ChX} {d : DcS}
end
def newDc : DcS := ⟨0, none, 0, 0, 0, 0, none⟩
theorem build_dE (v : ImgV) (x : Img) (la sa : Option Addr) (n m lc sc : Nat) (w : World) : (Instr.build 31 #[(0, .agg (imgCells v x).toArray), (1, .slice la n lc), (2, .slice sa m sc), (4, .int .i64 (-1)), (9, .int .i64 (-1))]).run Tryd.prog w =
    .ok (.agg #[.int .i64 x.res, .slice v.ta x.tasks.length v.tc, .slice v.ma x.modes.length v.mc, .slice v.ea x.edges.length v.ec, .slice la n lc, .slice sa m sc, .int .i64 0, .int .i64 (-1), .int .i64 0, .int .i64 0, .int .i64 0, .int .i64 0, .int .i64 (-1)]) w := by kernel_rfl
set_option maxRecDepth 100000 in
theorem dnew_any (V : DcV) (X : ChX) (w : World) :
    Calls Tryd.prog 15 #[.agg (imgCells V.v X.x).toArray, .slice V.la X.lat.length V.lc, .slice V.sa X.stl.length V.sc] w fun e w' => e = .returned (.agg (dcL V X newDc).toArray) ∧ Keep [] w w' := by
  obtain ⟨W1, hW1⟩ : ∃ W1, (w.alloc (.cells (imgCells V.v X.x).toArray 26)).alloc (.cells #[.int .i64 0, .slice none 0 0, .slice none 0 0, .slice none 0 0, .slice none 0 0, .slice none 0 0, .int .i64 0, .int .i64 0, .int .i64 0, .int .i64 0, .int .i64 0, .int .i64 0, .int .i64 0] 31) = W1 := ⟨_, rfl⟩
  have b0 : Blk W1 w.heap.size 26 (imgCells V.v X.x).toArray := by rw [← hW1]; exact (img_box w V.v X.x).alloc _
  have b1 : Blk W1 (w.heap.size + 1) 31 zE30.toArray := by rw [← hW1]; exact Blk.new1 _ _ _ _
  have K1 : Keep [] w W1 := by rw [← hW1]; exact ((Keep.refl _ w).alloc _).alloc _
  have HW := Lib.hid hW1
  have HB := Lib.hid (fun W => build_dE V.v X.x V.la V.sa X.lat.length X.stl.length V.lc V.sc W)
  have HCI := Lib.hid b0.cellsAt
  have HIL : Hid ((imgCells V.v X.x).length = 4) := show _ = _ from rfl
  have HK1 := Lib.hid K1
  clear hW1 b0 K1
  generalize imgCells V.v X.x = il at *
  have hbd := HB.out
  go_enter Tryd.func15, Tryd.ntmps15
  go_wp2_with (first
    | rw [HW.out]
    | (refine wpList_load_agg rfl 26 (.tmp 3) rfl rfl (cs := il) (by rw [HIL.out]; exact agg_image) HCI.out ?_)
    | (refine stop_at 10 rfl ?_))
  constructor
  refine wpList_runsC rfl (v := .agg (dcL V X newDc).toArray) (w' := W1) (by
    simp only [execOp, Sem.run_bind, List.map_toArray, List.map_cons, List.map_nil]
    change Result.andThen ((Instr.build 31 #[(0, .agg il.toArray), (1, .slice V.la X.lat.length V.lc), (2, .slice V.sa X.stl.length V.sc), (4, .int .i64 (-1)), (9, .int .i64 (-1))]).run Tryd.prog W1) _ = _
    rw [hbd]; rfl) ?_
  refine wpList_store_all rfl 31 (.tmp 6) (.tmp 10) rfl rfl rfl (vs := dcL V X newDc) agg_E30.2 b1 (dcL_one _ _ _) rfl ?_
  intro w2 d2 k2
  go_wp2
  refine bodyPost_ret (results_blk rfl _ rfl d2 agg_E30) rfl ?_
  exact ⟨rfl, HK1.out.trans k2 (fun y hy hlt => by simp at hy; omega)⟩
end Go.Proofs.YteflgdnekflbbaaDoor
