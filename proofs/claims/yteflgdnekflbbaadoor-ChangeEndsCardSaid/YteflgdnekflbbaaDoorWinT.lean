/- What becomes of tasks along an edge (class), and a change that has begun (window.New, offset). Condition: the table of math/bits lies where the program's text lays it, where ceilings are asked for. A change that has begun: window.New; the work that goes ahead of a task, as an iterator. Condition: the table of math/bits lies where the program's text lays it. The work that goes ahead of a task along a change, as an iterator (window.Shift's terms). Condition: the table of math/bits lies where the program's text lays it. -/
import Derived.Test.YteflgdnekflbbaaDoorWinPlain
import Derived.Test.YteflgdnekflbbaaDoorRangeB
import Derived.Test.YteflgdnekflbbaaDoorMaskAll
namespace Go.Proofs.YteflgdnekflbbaaDoor
open Go.RowKit

def clsCells (c : Cls) : List Value := [.int .u32 (c.old : Int), .int .u32 (c.new : Int), .int .u32 (c.same : Int)]
theorem agg_cls : AggOf Tryd.prog 114 3 := ⟨by kernel_rfl, by kernel_rfl⟩
theorem agg_offs : AggOf Tryd.prog 90 16 := ⟨by kernel_rfl, by kernel_rfl⟩
theorem agg_shift : AggOf Tryd.prog 120 31 := ⟨by kernel_rfl, by kernel_rfl⟩
/-- A change that has begun: the image, the classes, the ceilings, the offsets. -/
def shCells (v : ImgV) (x : Img) (c : Cls) (T L : List Int) : List Value := imgCells v x ++ (clsCells c ++ (iv T ++ iv L))
theorem shCells_len (v : ImgV) (x : Img) (c : Cls) {T L : List Int} (hT : T.length = 8) (hL : L.length = 16) : (shCells v x c T L).length = 31 := by
  simp [shCells, imgCells, clsCells, hT, hL]
theorem list8 {α : Type} {l : List α} (h : l.length = 8) : ∃ a b c d e f g i, l = [a, b, c, d, e, f, g, i] :=
  match l, h with | [a, b, c, d, e, f, g, i], _ => ⟨a, b, c, d, e, f, g, i, rfl⟩
theorem list16 {α : Type} {l : List α} (h : l.length = 16) : ∃ a b c d e f g i j k m n o p q r, l = [a, b, c, d, e, f, g, i, j, k, m, n, o, p, q, r] :=
  match l, h with | [a, b, c, d, e, f, g, i, j, k, m, n, o, p, q, r], _ => ⟨a, b, c, d, e, f, g, i, j, k, m, n, o, p, q, r, rfl⟩
set_option maxRecDepth 100000 in
theorem run_build_shift (v : ImgV) (x : Img) (c : Cls) {T L : List Int} (hT : T.length = 8) (hL : L.length = 16) (w : World) :
    (Instr.build 120 #[(0, .agg (imgCells v x).toArray), (1, .agg (clsCells c).toArray), (2, .agg (iv T).toArray), (3, .agg (iv L).toArray)]).run Tryd.prog w = .ok (.agg (shCells v x c T L).toArray) w := by
  obtain ⟨t0, t1, t2, t3, t4, t5, t6, t7, rfl⟩ := list8 hT
  obtain ⟨l0, l1, l2, l3, l4, l5, l6, l7, l8, l9, l10, l11, l12, l13, l14, l15, rfl⟩ := list16 hL
  kernel_rfl

set_option maxRecDepth 100000 in
theorem both_any (c : Cls) (w : World) (h : c.Ok) : Calls Tryd.prog 46 #[.agg (clsCells c).toArray] w fun e w' => e = .returned (.int .u32 (c.both : Int)) ∧ Keep [] w w' := by
  have K0 := (Keep.refl [] w).alloc (.cells (clsCells c).toArray 114)
  have hb := Blk.new w 114 (clsCells c).toArray
  have h1 := u32_or_nat c.old c.new h.old h.new
  have h2 := u32_or_nat (c.old ||| c.new) c.same (Nat.or_lt_two_pow (n := 32) h.old h.new) h.same
  have HB : Hid (bits .or .u32 (bits .or .u32 (c.old : Int) (c.new : Int)) (c.same : Int) = (c.both : Int)) := by show _ = _; rw [h1, h2]; rfl
  have c0 : (w.alloc (.cells (clsCells c).toArray 114)).cell? ⟨w.heap.size, 0, none⟩ = some (.int .u32 (c.old : Int)) := by rw [hb.cell]; rfl
  have c1 : (w.alloc (.cells (clsCells c).toArray 114)).cell? ⟨w.heap.size, 1, none⟩ = some (.int .u32 (c.new : Int)) := by rw [hb.cell]; rfl
  have c2 : (w.alloc (.cells (clsCells c).toArray 114)).cell? ⟨w.heap.size, 2, none⟩ = some (.int .u32 (c.same : Int)) := by rw [hb.cell]; rfl
  clear hb h1 h2
  generalize (clsCells c).toArray = cs at *
  go_enter Tryd.func46, Tryd.ntmps46
  go_wp2
  go_ret
  exact ⟨congrArg (fun n => Ending.returned (.int .u32 n)) HB.out, K0⟩
set_option maxRecDepth 100000 in
theorem cto_any (c : Cls) (w : World) (h : c.Ok) : Calls Tryd.prog 73 #[.agg (clsCells c).toArray] w fun e w' => e = .returned (.int .u32 (c.to : Int)) ∧ Keep [] w w' := by
  have K0 := (Keep.refl [] w).alloc (.cells (clsCells c).toArray 114)
  have hb := Blk.new w 114 (clsCells c).toArray
  have h1 := u32_or_nat c.new c.same h.new h.same
  have HB : Hid (bits .or .u32 (c.new : Int) (c.same : Int) = (c.to : Int)) := by show _ = _; rw [h1]; rfl
  have c1 : (w.alloc (.cells (clsCells c).toArray 114)).cell? ⟨w.heap.size, 1, none⟩ = some (.int .u32 (c.new : Int)) := by rw [hb.cell]; rfl
  have c2 : (w.alloc (.cells (clsCells c).toArray 114)).cell? ⟨w.heap.size, 2, none⟩ = some (.int .u32 (c.same : Int)) := by rw [hb.cell]; rfl
  clear hb h1
  generalize (clsCells c).toArray = cs at *
  go_enter Tryd.func73, Tryd.ntmps73
  go_wp2
  go_ret
  exact ⟨congrArg (fun n => Ending.returned (.int .u32 n)) HB.out, K0⟩
set_option maxRecDepth 100000 in
theorem clsOf_any (f t : Nat) (w : World) (hf : f < 4294967296) (ht : t < 4294967296) : Calls Tryd.prog 62 #[.int .u32 (f : Int), .int .u32 (t : Int)] w fun e w' => e = .returned (.agg (clsCells (clsOf f t)).toArray) ∧ Keep [] w w' := by
  have h1 := u32_andNot_nat f t hf ht
  have h2 := u32_andNot_nat t f ht hf
  have h3 := u32_and_nat f t hf ht
  have HC : Hid (clsCells (clsOf f t) = [.int .u32 (bits .andNot .u32 (f : Int) (t : Int)), .int .u32 (bits .andNot .u32 (t : Int) (f : Int)), .int .u32 (bits .and .u32 (f : Int) (t : Int))]) := by show _ = _; rw [h1, h2, h3]; rfl
  clear h1 h2 h3
  go_enter Tryd.func62, Tryd.ntmps62
  go_wp2_with (refine stop_store 114 (.tmp 4) (.tmp 14) rfl ?_)
  constructor
  refine wpList_store_all rfl 114 (.tmp 4) (.tmp 14) rfl rfl (congrArg (fun l => Value.agg (List.toArray l)) HC.out.symm) (vs := clsCells (clsOf f t)) (by kernel_rfl) (Blk.new _ _ _) (by simp [clsCells, Value.oneCell']) rfl ?_
  intro w5 d5 k5
  have K5 : Keep [] w w5 := ((Keep.refl [] w).alloc _).trans k5 (fun y hy hlt => by simp at hy; omega)
  go_wp2
  refine bodyPost_ret (results_blk rfl _ rfl d5 agg_cls) rfl ?_
  exact ⟨rfl, K5⟩
/-- The classes of an edge. -/
def clsE (x : Img) (k : Nat) : Cls := match x.edges[k]? with | some e => clsOf (setOf10 x e.frm) (setOf10 x e.to) | none => ⟨0, 0, 0⟩
theorem clsE_ok (x : Img) (k : Nat) (h : x.Ok) : (clsE x k).Ok := by
  unfold clsE
  split
  · exact clsOf_ok (setOf10_lt x _ h) (setOf10_lt x _ h)
  · exact ⟨by decide, by decide, by decide⟩
set_option maxRecDepth 100000 in
set_option maxHeartbeats 1000000 in
theorem clsEdge_any (v : ImgV) (x : Img) (k : Nat) (w : World) (h : ImgAt w v x) (hk : k < x.edges.length) :
    Calls Tryd.prog 42 #[.agg (imgCells v x).toArray, .int .i64 (k : Int)] w fun e w' => e = .returned (.agg (clsCells (clsE x k)).toArray) ∧ Keep [] w w' := by
  have hl := h.le
  unfold maxLen at hl
  obtain ⟨W0, hW0⟩ : ∃ W0, (w.alloc (.cells (imgCells v x).toArray 26)).alloc (.cells #[.int .u32 0, .int .u32 0, .int .u32 0] 114) = W0 := ⟨_, rfl⟩
  have b0 : Blk W0 w.heap.size 26 (imgCells v x).toArray := by rw [← hW0]; exact (img_box w v x).alloc _
  have b1 : Blk W0 (w.heap.size + 1) 114 #[.int .u32 0, .int .u32 0, .int .u32 0] := by rw [← hW0]; exact Blk.new1 _ _ _ _
  have K0 : Keep [] w W0 := by rw [← hW0]; exact ((Keep.refl _ w).alloc _).alloc _
  have hsz : W0.heap.size = w.heap.size + 2 := by rw [← hW0]; simp
  have c3 : W0.cell? ⟨w.heap.size, 3, none⟩ = some (.slice v.ea x.edges.length v.ec) := by rw [b0.cell]; rfl
  obtain ⟨b, o, hA, hbw, hcs⟩ := h.edge (by omega)
  have hct := (hcs k hk).keep0 K0 hbw
  have hbw0 := Nat.lt_of_lt_of_le hbw K0.size
  have e0 : W0.cell? ⟨b, o + k * 23, none⟩ = some (.int .i64 x.edges[k].frm) := hct 0 _ rfl
  have e1 : W0.cell? ⟨b, o + k * 23 + 1, none⟩ = some (.int .i64 x.edges[k].to) := hct 1 _ rfl
  have HF : ∀ w', Keep [] W0 w' → w'.cell? ⟨w.heap.size, 3, none⟩ = some (.slice v.ea x.edges.length v.ec) ∧ w'.cell? ⟨b, o + k * 23, none⟩ = some (.int .i64 x.edges[k].frm) ∧ w'.cell? ⟨b, o + k * 23 + 1, none⟩ = some (.int .i64 x.edges[k].to) := fun w' hk' =>
    ⟨(hk'.cell (p := ⟨w.heap.size, 3, none⟩) b0.lt (by simp)).trans c3, (hk'.cell (p := ⟨b, o + k * 23, none⟩) hbw0 (by simp)).trans e0, (hk'.cell (p := ⟨b, o + k * 23 + 1, none⟩) hbw0 (by simp)).trans e1⟩
  have HCA : ∀ w', Keep [] W0 w' → CellsAt w' w.heap.size 0 (imgCells v x) := fun w' hk' => (b0.keep0 hk').cellsAt
  have HT1 := fun w' hk' => Lib.hid (tasks_any v x x.edges[k].frm w' (h.keep0 (K0.then hk')))
  have HT2 := fun w' hk' => Lib.hid (tasks_any v x x.edges[k].to w' (h.keep0 (K0.then hk')))
  have hs1 := setOf10_lt x x.edges[k].frm h.ok
  have hs2 := setOf10_lt x x.edges[k].to h.ok
  have HCO := fun w => Lib.hid (clsOf_any (setOf10 x x.edges[k].frm) (setOf10 x x.edges[k].to) w hs1 hs2)
  have HCE : Hid (clsE x k = clsOf (setOf10 x x.edges[k].frm) (setOf10 x x.edges[k].to)) := by show _ = _; unfold clsE; rw [List.getElem?_eq_getElem hk]
  have HIL : Hid ((imgCells v x).length = 4) := show _ = _ from rfl
  have B1 := Lib.hid b1
  have p0 : (0 : Int) ≤ (k : Int) := by omega
  have p1 : (k : Int) < (x.edges.length : Int) := by omega
  have HW := Lib.hid hW0
  rw [hA] at HF c3
  clear h hcs hct b0 b1 e0 e1 hW0
  generalize clsOf (setOf10 x x.edges[k].frm) (setOf10 x x.edges[k].to) = ce at *
  generalize setOf10 x x.edges[k].frm = s1 at *
  generalize setOf10 x x.edges[k].to = s2 at *
  generalize x.edges[k].frm = ef at *
  generalize x.edges[k].to = et at *
  generalize imgCells v x = il at *
  go_enter Tryd.func42, Tryd.ntmps42
  go_wp2_with (rw [HW.out])
  refine wp_region_flow_tail 17 (Keep [] W0) rfl (by kernel_rfl) (Keep.refl _ _).drew ?_
  refine fl_agg 26 (.tmp 2) il rfl rfl rfl (by rw [HIL.out]; exact agg_image) HCA ?_
  simp only [Act.put, List.setIfInBounds_toArray, List.set_cons_zero, List.set_cons_succ]
  repeat (refine fl_val (v := ?_) (by rfl) ?_ ?_; rotate_left; (intro w' hS; obtain ⟨f1,f2,f3⟩ := HF w' hS; go_simp; with_reducible rfl); simp only [Act.put, List.setIfInBounds_toArray, List.set_cons_zero, List.set_cons_succ])
  refine fl_call (f := 27) (v := .int .u32 (s1 : Int)) (by rfl) rfl (by simp only [List.map_toArray, List.map_cons, List.map_nil]; rfl) Tryd.func27 (by kernel_rfl) (by kernel_rfl) (fun w' hS => ((HT1 w' hS).out.mono (fun e w'' h => ⟨h.1, hS.then h.2⟩))) ?_; simp only [Act.put, List.setIfInBounds_toArray, List.set_cons_zero, List.set_cons_succ]
  refine fl_agg 26 (.tmp 2) il rfl rfl rfl (by rw [HIL.out]; exact agg_image) HCA ?_
  simp only [Act.put, List.setIfInBounds_toArray, List.set_cons_zero, List.set_cons_succ]
  repeat (refine fl_val (v := ?_) (by rfl) ?_ ?_; rotate_left; (intro w' hS; obtain ⟨f1,f2,f3⟩ := HF w' hS; go_simp; with_reducible rfl); simp only [Act.put, List.setIfInBounds_toArray, List.set_cons_zero, List.set_cons_succ])
  refine fl_call (f := 27) (v := .int .u32 (s2 : Int)) (by rfl) rfl (by simp only [List.map_toArray, List.map_cons, List.map_nil]; rfl) Tryd.func27 (by kernel_rfl) (by kernel_rfl) (fun w' hS => ((HT2 w' hS).out.mono (fun e w'' h => ⟨h.1, hS.then h.2⟩))) ?_; simp only [Act.put, List.setIfInBounds_toArray, List.set_cons_zero, List.set_cons_succ]
  refine fl_call (f := 62) (v := .agg (clsCells ce).toArray) (by rfl) rfl (by simp only [List.map_toArray, List.map_cons, List.map_nil]; rfl) Tryd.func62 (by kernel_rfl) (by kernel_rfl) (fun w' hS => ((HCO w').out.mono (fun e w'' h => ⟨h.1, hS.then h.2⟩))) ?_; simp only [Act.put, List.setIfInBounds_toArray, List.set_cons_zero, List.set_cons_succ]
  refine fl_nil ?_
  intro w4 hS
  refine wpList_store_all rfl 114 (.tmp 4) (.tmp 31) rfl rfl rfl (vs := clsCells ce) (by kernel_rfl) (B1.out.keep0 hS) (by simp [clsCells, Value.oneCell']) rfl ?_
  intro w5 d5 k5
  have hsz := K0.size
  have K5 : Keep [] w w5 := (K0.then hS).trans k5 (fun y hy hlt => by simp at hy; omega)
  go_wp2
  refine bodyPost_ret (results_blk rfl _ rfl d5 agg_cls) rfl ?_
  exact ⟨by rw [HCE.out], K5⟩
set_option maxRecDepth 100000 in
theorem off_any (v : ImgV) (x : Img) (c : Cls) (T L : List Int) (i : Int) (w : World) (h : c.Ok) (hT : T.length = 8) (hL : L.length = 16) (hi : has10 c.new i = true → i < 16) :
    Calls Tryd.prog 64 #[.agg (shCells v x c T L).toArray, .int .i64 i] w fun e w' => e = .returned (.int .i64 (offW c L i)) ∧ Keep [] w w' := by
  have hb := Blk.new w 120 (shCells v x c T L).toArray
  obtain ⟨W0, hW0⟩ : ∃ W0, w.alloc (.cells (shCells v x c T L).toArray 120) = W0 := ⟨_, rfl⟩
  rw [hW0] at hb
  have K0 : Keep [] w W0 := by rw [← hW0]; exact (Keep.refl _ w).alloc _
  have c5 : W0.cell? ⟨w.heap.size, 5, none⟩ = some (.int .u32 (c.new : Int)) := by rw [hb.cell]; rfl
  have HH := fun w => Lib.hid (has_any c.new i w h.new)
  have HE := has_bitN c.new i
  cases hh : has10 c.new i with
  | false =>
    rw [hh] at HE
    rw [HE] at HH
    have HO : Hid (offW c L i = 0) := by show _ = _; unfold offW; rw [hh]; rfl
    have HW := Lib.hid hW0
    clear hW0 hb HE
    generalize (shCells v x c T L).toArray = cs at *
    go_enter Tryd.func64, Tryd.ntmps64
    go_wp2_with (first | rw [HW.out] | (refine (HH _).out.mono ?_; rintro e w5 ⟨rfl, rfl⟩))
    go_ret
    exact ⟨by rw [HO.out]; rfl, K0⟩
  | true =>
    rw [hh] at HE
    rw [HE] at HH
    have hi2 := hi hh
    have hi0 : 0 ≤ i := by unfold has10 at hh; simp at hh; omega
    obtain ⟨k, rfl⟩ : ∃ k : Nat, i = (k : Int) := ⟨i.toNat, by omega⟩
    have hk : k < 16 := by omega
    have HO : Hid (offW c L (k : Int) = L.getD k 0) := by show _ = _; unfold offW; rw [hh]; rfl
    have c6 : W0.cell? ⟨w.heap.size, 15 + k, none⟩ = some (.int .i64 (L.getD k 0)) := by
      rw [hb.cell]
      have : (shCells v x c T L)[15 + k]? = some (.int .i64 (L.getD k 0)) := by
        unfold shCells
        rw [List.getElem?_append_right (by simp [imgCells]; omega), List.getElem?_append_right (by simp [imgCells, clsCells]; omega), List.getElem?_append_right (by simp [imgCells, clsCells, hT]; omega)]
        simp only [imgCells, clsCells, iv_len, hT, List.length_cons, List.length_nil]
        rw [show 15 + k - (0 + 1 + 1 + 1 + 1) - (0 + 1 + 1 + 1) - 8 = k by omega, iv_get (by omega), List.getD_eq_getElem?_getD, List.getElem?_eq_getElem (by omega)]
        rfl
      simpa using this
    have HW := Lib.hid hW0
    clear hW0 hb HE
    generalize (shCells v x c T L).toArray = cs at *
    generalize L.getD k 0 = z at *
    have p0 : (0 : Int) ≤ (k : Int) := by omega
    have p1 : (k : Int) < 16 := by omega
    go_enter Tryd.func64, Tryd.ntmps64
    go_wp2_with (first | rw [HW.out] | (refine (HH _).out.mono ?_; rintro e w5 ⟨rfl, rfl⟩))
    go_ret
    exact ⟨by rw [HO.out]; rfl, K0⟩
end Go.Proofs.YteflgdnekflbbaaDoor

namespace Go.Proofs.YteflgdnekflbbaaDoor
open Go.RowKit
attribute [local go_sem] Oper.semAt_some noOut_normal

def shZero : List Value := [.int .i64 0, .slice none 0 0, .slice none 0 0, .slice none 0 0, .int .u32 0, .int .u32 0, .int .u32 0, .int .i64 0, .int .i64 0, .int .i64 0, .int .i64 0, .int .i64 0, .int .i64 0, .int .i64 0, .int .i64 0, .int .i64 0, .int .i64 0, .int .i64 0, .int .i64 0, .int .i64 0, .int .i64 0, .int .i64 0, .int .i64 0, .int .i64 0, .int .i64 0, .int .i64 0, .int .i64 0, .int .i64 0, .int .i64 0, .int .i64 0, .int .i64 0]
theorem shZero_one : ∀ u ∈ shZero, u.oneCell' = true := by decide
theorem shCells_one (v : ImgV) (x : Img) (c : Cls) (T L : List Int) : ∀ u ∈ shCells v x c T L, u.oneCell' = true := by
  intro u hu
  unfold shCells at hu
  rw [List.mem_append, List.mem_append, List.mem_append] at hu
  rcases hu with hu | hu | hu | hu
  · simp only [imgCells, List.mem_cons, List.not_mem_nil, or_false] at hu
    rcases hu with rfl | rfl | rfl | rfl <;> rfl
  · simp only [clsCells, List.mem_cons, List.not_mem_nil, or_false] at hu
    rcases hu with rfl | rfl | rfl <;> rfl
  · exact iv_one T u hu
  · exact iv_one L u hu
/-- The ceilings of an edge's tasks. -/
def tabE (x : Img) (k : Nat) : List Int := ceilOf x.tasks (clsE x k).both
theorem tabE_len (x : Img) (k : Nat) : (tabE x k).length = 8 := ceilIn_len _ _
set_option maxRecDepth 100000 in
set_option maxHeartbeats 1000000 in
theorem new_out (v : ImgV) (x : Img) (edge : Int) (L : List Int) (w : World) (h : ImgAt w v x) (he : edge < 0 ∨ (x.edges.length : Int) ≤ edge) :
    Calls Tryd.prog 47 #[.agg (imgCells v x).toArray, .int .i64 edge, .agg (iv L).toArray] w fun e w' => e = .returned (.tuple #[.agg shZero.toArray, .bool false]) ∧ Keep [] w w' := by
  have hl := h.le
  unfold maxLen at hl
  obtain ⟨W0, hW0⟩ : ∃ W0, ((w.alloc (.cells (imgCells v x).toArray 26)).alloc (.cells (iv L).toArray 90)).alloc (.cells shZero.toArray 120) = W0 := ⟨_, rfl⟩
  have b0 : Blk W0 w.heap.size 26 (imgCells v x).toArray := by rw [← hW0]; exact ((Blk.new _ _ _).alloc _).alloc _
  have b2 : Blk W0 (w.heap.size + 2) 120 shZero.toArray := by rw [← hW0]; exact Blk.new2 _ _ _ _ _
  have K0 : Keep [] w W0 := by rw [← hW0]; exact (((Keep.refl _ w).alloc _).alloc _).alloc _
  have hsz : W0.heap.size = w.heap.size + 3 := by rw [← hW0]; simp
  have c3 : W0.cell? ⟨w.heap.size, 3, none⟩ = some (.slice v.ea x.edges.length v.ec) := by rw [b0.cell]; rfl
  have HW : Hid (((w.alloc (.cells (imgCells v x).toArray 26)).alloc (.cells (iv L).toArray 90)).alloc (.cells #[.int .i64 0, .slice none 0 0, .slice none 0 0, .slice none 0 0, .int .u32 0, .int .u32 0, .int .u32 0, .int .i64 0, .int .i64 0, .int .i64 0, .int .i64 0, .int .i64 0, .int .i64 0, .int .i64 0, .int .i64 0, .int .i64 0, .int .i64 0, .int .i64 0, .int .i64 0, .int .i64 0, .int .i64 0, .int .i64 0, .int .i64 0, .int .i64 0, .int .i64 0, .int .i64 0, .int .i64 0, .int .i64 0, .int .i64 0, .int .i64 0, .int .i64 0] 120) = W0) := hW0
  clear hW0 h b0
  generalize (imgCells v x).toArray = cs at *
  generalize (iv L).toArray = lc at *
  have he2 : edge < 0 ∨ (0 ≤ edge ∧ (x.edges.length : Int) ≤ edge) := by omega
  rcases he2 with h1 | ⟨h1, h2⟩
  all_goals
    go_enter Tryd.func47, Tryd.ntmps47
    go_wp2_with (first
      | rw [HW.out]
      | (refine stop_store 120 (.tmp 6) (.tmp 18) rfl ?_))
    constructor
    first | rw [HW.out] | skip
    refine wpList_store_all rfl 120 (.tmp 6) (.tmp 18) rfl rfl rfl (vs := shZero) (by kernel_rfl) b2 shZero_one rfl ?_
    intro w5 d5 k5
    have K5 : Keep [] w w5 := K0.trans k5 (fun y hy hlt => by simp at hy; omega)
    go_wp2
    refine bodyPost_ret (results_cell_tmp rfl _ rfl rfl d5 agg_shift) rfl ?_
    exact ⟨rfl, K5⟩
set_option maxRecDepth 100000 in
set_option maxHeartbeats 1000000 in
theorem new_in (v : ImgV) (x : Img) (k : Nat) (L : List Int) (w : World) (hTb : Tab w) (h : ImgAt w v x) (hk : k < x.edges.length) (hL : L.length = 16) :
    Calls Tryd.prog 47 #[.agg (imgCells v x).toArray, .int .i64 (k : Int), .agg (iv L).toArray] w fun e w' => e = .returned (.tuple #[.agg (shCells v x (clsE x k) (tabE x k) L).toArray, .bool true]) ∧ Keep [] w w' := by
  have hl := h.le
  unfold maxLen at hl
  obtain ⟨W0, hW0⟩ : ∃ W0, ((w.alloc (.cells (imgCells v x).toArray 26)).alloc (.cells (iv L).toArray 90)).alloc (.cells shZero.toArray 120) = W0 := ⟨_, rfl⟩
  have b0 : Blk W0 w.heap.size 26 (imgCells v x).toArray := by rw [← hW0]; exact ((Blk.new _ _ _).alloc _).alloc _
  have b1 : Blk W0 (w.heap.size + 1) 90 (iv L).toArray := by rw [← hW0]; exact (Blk.new1 _ _ _ _).alloc _
  have b2 : Blk W0 (w.heap.size + 2) 120 shZero.toArray := by rw [← hW0]; exact Blk.new2 _ _ _ _ _
  have K0 : Keep [] w W0 := by rw [← hW0]; exact (((Keep.refl _ w).alloc _).alloc _).alloc _
  have hsz : W0.heap.size = w.heap.size + 3 := by rw [← hW0]; simp
  have c3 : W0.cell? ⟨w.heap.size, 3, none⟩ = some (.slice v.ea x.edges.length v.ec) := by rw [b0.cell]; rfl
  have HW : Hid (((w.alloc (.cells (imgCells v x).toArray 26)).alloc (.cells (iv L).toArray 90)).alloc (.cells #[.int .i64 0, .slice none 0 0, .slice none 0 0, .slice none 0 0, .int .u32 0, .int .u32 0, .int .u32 0, .int .i64 0, .int .i64 0, .int .i64 0, .int .i64 0, .int .i64 0, .int .i64 0, .int .i64 0, .int .i64 0, .int .i64 0, .int .i64 0, .int .i64 0, .int .i64 0, .int .i64 0, .int .i64 0, .int .i64 0, .int .i64 0, .int .i64 0, .int .i64 0, .int .i64 0, .int .i64 0, .int .i64 0, .int .i64 0, .int .i64 0, .int .i64 0] 120) = W0) := hW0
  have hco := clsE_ok x k h.ok
  have HE := Lib.hid (clsEdge_any v x k W0 (h.keep0 K0) hk)
  have HBo := fun w => Lib.hid (both_any (clsE x k) w hco)
  have HCe := fun w' hk' => Lib.hid (ceilOf_any v x (clsE x k).both w' (hTb.keep0 (K0.then hk')) (h.keep0 (K0.then hk')) hco.both)
  have HTE : Hid (ceilOf x.tasks (clsE x k).both = tabE x k) := rfl
  have HBU := fun w => Lib.hid (run_build_shift v x (clsE x k) (tabE_len x k) hL w)
  have HSL : Hid ((shCells v x (clsE x k) (tabE x k) L).length = 31) := shCells_len v x _ (tabE_len x k) hL
  have HSO : Hid (∀ u ∈ shCells v x (clsE x k) (tabE x k) L, u.oneCell' = true) := shCells_one v x _ _ _
  have HIL : Hid ((imgCells v x).length = 4) := show _ = _ from rfl
  have HLL : Hid ((iv L).length = 16) := show _ = _ by rw [iv_len, hL]
  have p0 : (0 : Int) ≤ (k : Int) := by omega
  have p1 : (k : Int) < (x.edges.length : Int) := by omega
  rw [HTE.out] at HCe
  have hci : CellsAt W0 w.heap.size 0 (imgCells v x) := b0.cellsAt
  have HCI := Lib.hid hci
  have HCL := Lib.hid b1.cellsAt
  have B2 := Lib.hid b2
  clear hW0 h b0 b1 b2 hTb hci
  generalize shCells v x (clsE x k) (tabE x k) L = sc at *
  generalize imgCells v x = il at *
  generalize iv L = lc at *
  generalize tabE x k = tb at *
  generalize clsE x k = ce at *
  go_enter Tryd.func47, Tryd.ntmps47
  go_wp2_with (first
    | rw [HW.out]
    | (refine wpList_load_agg rfl 26 (.tmp 3) rfl rfl (cs := il) (by rw [HIL.out]; exact agg_image) HCI.out ?_)
    | (refine HE.out.mono ?_; rintro e w3 ⟨rfl, k3⟩; have HK3 := Lib.hid k3; clear k3)
    | (refine stop_store 114 (.tmp 8) (.tmp 21) rfl ?_))
  constructor
  refine wpList_store_all rfl 114 (.tmp 8) (.tmp 21) rfl rfl rfl (vs := clsCells ce) (by kernel_rfl) (Blk.new _ _ _) (by simp [clsCells, Value.oneCell']) rfl ?_
  intro w4 d4 k4
  have K34 : Keep [] w3 w4 := ((Keep.refl [] w3).alloc _).trans k4 (fun y hy hlt => by simp at hy; omega)
  have K4 : Keep [] W0 w4 := HK3.out.then K34
  have hz4 := K4.size
  have hci4 : ∀ w', Keep [] w4 w' → CellsAt w' w.heap.size 0 il := fun w' hk' => HCI.out.keep0 (K4.then hk') (by omega)
  have hcl4 : ∀ w', Keep [] w4 w' → CellsAt w' (w.heap.size + 1) 0 lc := fun w' hk' => HCL.out.keep0 (K4.then hk') (by omega)
  have hcc4 : ∀ w', Keep [] w4 w' → CellsAt w' w3.heap.size 0 (clsCells ce) := fun w' hk' => (d4.keep0 hk').cellsAt
  have HK4 := Lib.hid K4
  clear K34 k4 d4 K4 hz4
  go_wp2
  refine wp_region_flow_tail 8 (Keep [] w4) rfl (by kernel_rfl) (Keep.refl _ _).drew ?_
  refine fl_agg 26 (.tmp 3) il rfl rfl rfl (by rw [HIL.out]; exact agg_image) hci4 ?_
  simp only [Act.put, List.setIfInBounds_toArray, List.set_cons_zero, List.set_cons_succ]
  refine fl_agg 114 (.tmp 8) (clsCells ce) rfl rfl rfl agg_cls hcc4 ?_
  simp only [Act.put, List.setIfInBounds_toArray, List.set_cons_zero, List.set_cons_succ]
  refine fl_agg 26 (.tmp 3) il rfl rfl rfl (by rw [HIL.out]; exact agg_image) hci4 ?_
  simp only [Act.put, List.setIfInBounds_toArray, List.set_cons_zero, List.set_cons_succ]
  refine fl_agg 114 (.tmp 8) (clsCells ce) rfl rfl rfl agg_cls hcc4 ?_
  simp only [Act.put, List.setIfInBounds_toArray, List.set_cons_zero, List.set_cons_succ]
  refine fl_call (f := 46) (v := .int .u32 (ce.both : Int)) (by rfl) rfl (by simp only [List.map_toArray, List.map_cons, List.map_nil]; rfl) Tryd.func46 (by kernel_rfl) (by kernel_rfl) (fun w' hS => ((HBo w').out.mono (fun e w'' h => ⟨h.1, hS.then h.2⟩))) ?_; simp only [Act.put, List.setIfInBounds_toArray, List.set_cons_zero, List.set_cons_succ]
  refine fl_call (f := 39) (v := .agg (iv tb).toArray) (by rfl) rfl (by simp only [List.map_toArray, List.map_cons, List.map_nil]; rfl) Tryd.func39 (by kernel_rfl) (by kernel_rfl) (fun w' hS => ((HCe w' (HK4.out.then hS)).out.mono (fun e w'' h => ⟨h.1, hS.then h.2⟩))) ?_; simp only [Act.put, List.setIfInBounds_toArray, List.set_cons_zero, List.set_cons_succ]
  refine fl_agg 90 (.tmp 5) lc rfl rfl rfl (by rw [HLL.out]; exact agg_offs) hcl4 ?_
  simp only [Act.put, List.setIfInBounds_toArray, List.set_cons_zero, List.set_cons_succ]
  refine fl_val (v := .agg sc.toArray) (by rfl) (fun w' _ => by have hb := (HBU w').out; simp only [execOp, Sem.run_bind, List.map_toArray, List.map_cons, List.map_nil]; change Result.andThen ((Instr.build 120 #[(0, .agg il.toArray), (1, .agg (clsCells ce).toArray), (2, .agg (iv tb).toArray), (3, .agg lc.toArray)]).run Tryd.prog w') _ = _; rw [hb]; rfl) ?_
  simp only [Act.put, List.setIfInBounds_toArray, List.set_cons_zero, List.set_cons_succ]
  refine fl_nil ?_
  intro w5 hS
  have hsz := hsz
  refine wpList_store_all rfl 120 (.tmp 6) (.tmp 29) rfl rfl rfl (vs := sc) (by rw [HSL.out]; exact agg_shift.2) (B2.out.keep0 (HK4.out.then hS)) HSO.out (by rw [HSL.out]; rfl) ?_
  intro w6 d6 k6
  have K6 : Keep [] w w6 := (K0.then (HK4.out.then hS)).trans k6 (fun y hy hlt => by simp at hy; omega)
  go_wp2
  refine bodyPost_ret (results_cell_tmp rfl _ rfl rfl d6 (by rw [HSL.out]; exact agg_shift)) rfl ?_
  exact ⟨rfl, K6⟩
end Go.Proofs.YteflgdnekflbbaaDoor

namespace Go.Proofs.YteflgdnekflbbaaDoor
open Go.RowKit
attribute [local go_sem] Oper.semAt_some

set_option maxRecDepth 100000 in
set_option maxHeartbeats 1000000 in
theorem demOfO_any (t : Tsk) (z : Int) (w : World) : Calls Tryd.prog 71 #[.agg (tskCells t).toArray, .int .i64 z] w fun e w' => e = .returned (.agg (trmCells ⟨t.per, t.cost, z, 0⟩).toArray) ∧ Keep [] w w' := by
  have hb0 := Blk.new w 88 (tskCells t).toArray
  have K0 := (Keep.refl [] w).alloc (.cells (tskCells t).toArray 88)
  obtain ⟨W0, hW0⟩ : ∃ W0, w.alloc (.cells (tskCells t).toArray 88) = W0 := ⟨_, rfl⟩
  have hs0 : Hid (W0.heap.size = w.heap.size + 1) := by show _ = _; rw [← hW0]; simp
  rw [hW0] at hb0 K0
  have HW := Lib.hid hW0
  have K1 := Lib.hid K0
  have hF : Hid (∀ W, Keep [] W0 W → W.cell? ⟨w.heap.size, 0, none⟩ = some (.int .i64 t.per) ∧ W.cell? ⟨w.heap.size, 2, none⟩ = some (.int .i64 t.cost)) := fun W hk =>
    ⟨by rw [(hb0.keep0 hk).cell]; rfl, by rw [(hb0.keep0 hk).cell]; rfl⟩
  obtain ⟨c1, c2⟩ := hF.out _ ((Keep.refl [] W0).alloc (.cells #[.int .i64 0, .int .i64 0, .int .i64 0, .int .i64 0] 144))
  clear hb0 K0 hW0
  generalize hp : t.per = tp at *
  generalize hc : t.cost = tc0 at *
  clear hp hc
  generalize tskCells t = tc at *
  go_enter Tryd.func71, Tryd.ntmps71
  go_wp2_with (first | rw [HW.out] | refine stop_store 144 (.tmp 4) (.tmp 10) rfl ?_)
  constructor
  refine wpList_store_all rfl 144 (.tmp 4) (.tmp 10) rfl rfl rfl (t := 144) (cs := #[.int .i64 0, .int .i64 0, .int .i64 0, .int .i64 0]) (vs := trmCells ⟨tp, tc0, z, 0⟩) agg_term.2 (Blk.new _ _ _) (by simp [trmCells, Value.oneCell']) rfl ?_
  intro w' d k'
  have K2 : Hid (Keep [] w w') := (K1.out.alloc _).trans k' (fun x hx hlt => by
    have := hs0.out
    simp at hx; omega)
  clear k'
  go_wp2
  refine bodyPost_ret (results_blk rfl _ rfl d agg_term) rfl ?_
  exact ⟨rfl, K2.out⟩

theorem cells_mid {w : World} {b : Nat} {A B C : List Value} {cs : List Value} (h : CellsAt w b 0 cs) (e : cs = A ++ (B ++ C)) {n : Nat} (hn : A.length = n) : CellsAt w b n B := fun j u hu => by
  subst e hn
  have := h (A.length + j) u (by rw [List.getElem?_append_right (by omega), List.getElem?_append_left (by have := (List.getElem?_eq_some_iff.1 hu).1; omega)]; simpa using hu)
  simpa using this
/-- The parts of a change in memory. -/
theorem sh_parts {w : World} {b : Nat} {v : ImgV} {x : Img} {c : Cls} {T L : List Int} (h : Blk w b 120 (shCells v x c T L).toArray) (_hT : T.length = 8) :
    CellsAt w b 0 (shCells v x c T L) ∧ CellsAt w b 0 (imgCells v x) ∧ CellsAt w b 4 (clsCells c) ∧ CellsAt w b 7 (iv T) := by
  have h0 := h.cellsAt
  refine ⟨h0, cells_mid (A := []) h0 rfl rfl, cells_mid (A := imgCells v x) h0 rfl rfl, cells_mid (A := imgCells v x ++ clsCells c) (C := iv L) h0 ?_ rfl⟩
  unfold shCells
  simp only [List.append_assoc]
/-- What the iterator holds: the change, the task, the loop's body; and all that lay at the start. -/
structure ST (w0 : World) (Bs Bt By l : Nat) (cs : List Value) (task : Int) (W : World) : Prop where
  sh : Blk W Bs 120 cs.toArray
  tk : Blk W Bt 3 #[.int .i64 task]
  yl : Blk W By 158 #[.func (.yield l) #[] #[]]
  low : Below w0.heap.size w0 W
abbrev UsT : List Nat := [140, 144]
theorem ST.kp {w0 : World} {Bs Bt By l B0 B2 : Nat} {cs : List Value} {task : Int} {W W' : World} (h : ST w0 Bs Bt By l cs task W) (k : KpU UsT B0 B2 W W') (hB : w0.heap.size ≤ B0) : ST w0 Bs Bt By l cs task W' :=
  ⟨k.blk h.sh (by decide), k.blk h.tk (by decide), k.blk h.yl (by decide), h.low.trans (k.below.mono hB)⟩
theorem ST.keep0 {w0 : World} {Bs Bt By l : Nat} {cs : List Value} {task : Int} {W W' : World} (h : ST w0 Bs Bt By l cs task W) (k : Keep [] W W') : ST w0 Bs Bt By l cs task W' :=
  ⟨h.sh.keep0 k, h.tk.keep0 k, h.yl.keep0 k, h.low.trans ⟨k.os, k.tape, k.output, k.size, fun x hx => k.block x (Nat.lt_of_lt_of_le hx h.low.size) (by simp)⟩⟩
def encT (t : Trm) : Array Value := #[.agg (trmCells t).toArray]
theorem wterms_any (v : ImgV) (x : Img) (c : Cls) (T L : List Int) (task : Int) (w : World) : Calls Tryd.prog 78 #[.agg (shCells v x c T L).toArray, .int .i64 task] w fun e w' =>
    e = .returned (.func (.func 82) #[] #[.pointer (some ⟨w.heap.size, 0, none⟩), .pointer (some ⟨w.heap.size + 1, 0, none⟩)]) ∧ (w.alloc (.cells (shCells v x c T L).toArray 120)).alloc (.cells #[.int .i64 task] 3) = w' := by
  generalize (shCells v x c T L).toArray = cs
  go_enter Tryd.func78, Tryd.ntmps78
  go_wp2
  go_ret
  exact ⟨rfl, rfl⟩

set_option maxRecDepth 100000 in
set_option maxHeartbeats 2000000 in
theorem wterms1_seq (n : Nat) (v : ImgV) (x : Img) (c : Cls) (T L : List Int) (task : Nat) (w0 w : World) (hx : ImgAt w0 v x) (hTb : Tab w0) (hw0 : Below w0.heap.size w0 w) (hc : c.Ok) (hT : T.length = 8) (hL : L.length = 16)
    (htk : task ≤ x.tasks.length) (hn : x.tasks.length ≤ 16) (Bs Bt : Nat) (hBs : Bs < w.heap.size) (hBt : Bt < w.heap.size)
    (hbs : Blk w Bs 120 (shCells v x c T L).toArray) (hbt : Blk w Bt 3 #[.int .i64 (task : Int)]) :
    SeqT Fence.wide n Tryd.prog LoN 82 #[.pointer (some ⟨Bs, 0, none⟩), .pointer (some ⟨Bt, 0, none⟩)] encT (KpU UsT w0.heap.size (w.heap.size + 2)) (aheadW x.tasks c L (task : Int)) w := by
  intro l J Jx W hW hge hJ hJx hY h0
  have hB0 : w0.heap.size ≤ W.heap.size := by have := hw0.size; omega
  have hlow : Below w0.heap.size w0 W := hw0.trans (hW.mono hw0.size)
  have hR : ∀ m pre (y : Trm) W1, J pre W1 → pre ++ [y] <+: aheadW x.tasks c L (task : Int) → YieldAt Fence.wide m Tryd.prog l #[.agg (trmCells y).toArray] W1 fun e W' =>
      (e = .returned (.bool true) ∧ J (pre ++ [y]) W' ∧ KpU UsT w0.heap.size (w.heap.size + 2) W1 W') ∨ (e = .returned (.bool false) ∧ Jx (pre ++ [y]) W' ∧ KpU UsT w0.heap.size (w.heap.size + 2) W1 W') := fun m pre y W1 hj hp => yieldAt_any open_wide (hY pre y W1 hj hp)
  clear hY
  have HSL : Hid ((shCells v x c T L).length = 31) := shCells_len v x c hT hL
  obtain ⟨W0, hW0⟩ : ∃ W0, W.alloc (.cells #[.func (.yield l) #[] #[]] 158) = W0 := ⟨_, rfl⟩
  have K0 : Keep [] W W0 := by rw [← hW0]; exact (Keep.refl _ W).alloc _
  have s0 : ST w0 Bs Bt W.heap.size l (shCells v x c T L) (task : Int) W0 := by
    refine ⟨?_, ?_, by rw [← hW0]; exact Blk.new _ _ _, ?_⟩
    · exact Blk.keep0 (show Blk W Bs _ _ from (hW.block Bs hBs).trans hbs) K0
    · exact Blk.keep0 (show Blk W Bt _ _ from (hW.block Bt hBt).trans hbt) K0
    · exact hlow.trans ⟨K0.os, K0.tape, K0.output, K0.size, fun x hx => K0.block x (by omega) (by simp)⟩
  have hz0 : W0.heap.size = W.heap.size + 1 := by rw [← hW0]; simp
  have kk0 : KpU UsT w0.heap.size (w.heap.size + 2) W W0 := kpu_keep0 K0 hB0
  have j0 := hJ.k0 h0 K0
  have HW := Lib.hid hW0
  have hSF : ∀ w', ST w0 Bs Bt W.heap.size l (shCells v x c T L) (task : Int) w' → w'.cell? ⟨Bt, 0, none⟩ = some (.int .i64 (task : Int)) ∧ w'.cell? ⟨W.heap.size, 0, none⟩ = some (.func (.yield l) #[] #[]) ∧ w'.cell? ⟨Bs, 1, none⟩ = some (.slice v.ta x.tasks.length v.tc) := fun w' h =>
    ⟨by rw [h.tk.cell]; rfl, by rw [h.yl.cell]; rfl, by rw [h.sh.cell]; rfl⟩
  have hSC : ∀ w', ST w0 Bs Bt W.heap.size l (shCells v x c T L) (task : Int) w' → CellsAt w' Bs 4 (clsCells c) := fun w' h => (sh_parts h.sh hT).2.2.1
  have hSA : ∀ w', ST w0 Bs Bt W.heap.size l (shCells v x c T L) (task : Int) w' → CellsAt w' Bs 0 (shCells v x c T L) := fun w' h => h.sh.cellsAt
  have HBo := fun w => Lib.hid (both_any c w hc)
  have HBe := fun w => Lib.hid (below_any c.both (task : Int) w hc.both)
  have hbl := belowN_lt (task : Int) hc.both
  have HTb : ∀ w', ST w0 Bs Bt W.heap.size l (shCells v x c T L) (task : Int) w' → Tab w' := fun w' h => hTb.keep0 (keepB h.low)
  have HIm : ∀ w', ST w0 Bs Bt W.heap.size l (shCells v x c T L) (task : Int) w' → ImgAt w' v x := fun w' h => hx.keep0 (keepB h.low)
  have hl := hx.lt
  unfold maxLen at hl
  have hlon := hx.ok.lon
  have HOf := fun i hi w => Lib.hid (off_any v x c T L i w hc hT hL hi)
  have HAW : Hid (aheadW x.tasks c L (task : Int) = termsW x.tasks c L (bitsL (belowN c.both (task : Int)))) := show _ = _ from rfl
  have hT00 := hTb.1
  clear hx hTb hbs hbt hW0 K0 h0
  rw [callsIn_wide, ← callsIn_wide (n := 9)]
  refine callsIn_of_wp_marks Tryd.func82 rfl trivial ?_ rfl
  simp only [Tryd.ntmps82, List.size_toArray, List.length_cons, List.length_nil, Nat.reduceAdd, Nat.reduceSub, Array.replicate_succ, Array.replicate_zero, List.push_toArray, List.append_toArray, List.nil_append, List.cons_append]
  gi_wp2_with (rw [HW.out])
  refine ai_start (ST w0 Bs Bt W.heap.size l (shCells v x c T L) (task : Int)) rfl rfl (s0.keep0 (Keep.refl _ _).drew) (fun hND hS hPan => ?_)
  have k1 : Keep [] W0 W0.drew := (Keep.refl _ W0).drew
  have j1 := hJ.k0 j0 k1
  have kk1 : KpU UsT w0.heap.size (w.heap.size + 2) W W0.drew := kk0.step k1 (by simp) hB0
  have hz1 : W0.drew.heap.size = W.heap.size + 1 := hz0
  clear j0 kk0 s0 k1 HW hz0
  generalize W0.drew = w1 at *
  (refine ai_val (v := ?_) 0 rfl open_wide hND (by kernel_rfl) (by kernel_rfl) (by kernel_rfl) (by rfl) hPan ?_ hS ?_; rotate_left; (intro w' hSw; go_simp; try with_reducible rfl); simp only [Act.put, List.setIfInBounds_toArray, List.set_cons_zero, List.set_cons_succ])
  refine ai_agg 1 114 (.tmp 5) (clsCells c) rfl open_wide hND (by kernel_rfl) (by kernel_rfl) (by kernel_rfl) (by rfl) hPan rfl rfl agg_cls hSC hS ?_
  (simp only [Act.put, List.setIfInBounds_toArray, List.set_cons_zero, List.set_cons_succ])
  (refine ai_val (v := ?_) 3 rfl open_wide hND (by kernel_rfl) (by kernel_rfl) (by kernel_rfl) (by rfl) hPan ?_ hS ?_; rotate_left; (intro w' hSw; obtain ⟨f1,f2,f3⟩ := hSF w' hSw; go_simp; try with_reducible rfl); simp only [Act.put, List.setIfInBounds_toArray, List.set_cons_zero, List.set_cons_succ])
  refine ai_one 2 (by kernel_rfl) (oi_call (f := 46) 2 rfl open_wide hND (by rfl) rfl (by simp only [List.map_toArray, List.map_cons, List.map_nil]; rfl) Tryd.func46 (by kernel_rfl) (by kernel_rfl) (HBo _).out ?_)
  rintro e w2 ⟨rfl, k2⟩
  have hS2 := hS.keep0 k2
  refine ⟨_, rfl, hS2, ?_⟩
  clear hS
  (simp only [Act.put, List.setIfInBounds_toArray, List.set_cons_zero, List.set_cons_succ])
  have hS := hS2
  refine ai_one 4 (by kernel_rfl) (oi_call (f := 61) 4 rfl open_wide hND (by rfl) rfl (by simp only [List.map_toArray, List.map_cons, List.map_nil]; rfl) Tryd.func61 (by kernel_rfl) (by kernel_rfl) (HBe _).out ?_)
  rintro e w3 ⟨rfl, rfl⟩
  refine ⟨_, rfl, hS, ?_⟩
  (simp only [Act.put, List.setIfInBounds_toArray, List.set_cons_zero, List.set_cons_succ])
  refine ai_one 5 (by kernel_rfl) (oi_call (f := 40) 5 rfl open_wide hND (by rfl) rfl (by simp only [List.map_toArray, List.map_cons, List.map_nil]; rfl) Tryd.func40 (by kernel_rfl) (by kernel_rfl) (maskAll_any (belowN c.both (task : Int)) _) ?_)
  rintro e w4 ⟨rfl, hw4⟩
  have k4 : Keep [] w2 w4 := by rw [← hw4]; exact (Keep.refl _ w2).alloc _
  have d4 : Blk w4 w2.heap.size 36 #[.int .u32 (belowN c.both (task : Int) : Int)] := by rw [← hw4]; exact Blk.new _ _ _
  have hz4 : w4.heap.size = w2.heap.size + 1 := by rw [← hw4]; simp
  have hS4 := hS.keep0 k4
  refine ⟨_, rfl, hS4, ?_⟩
  (simp only [Act.put, List.setIfInBounds_toArray, List.set_cons_zero, List.set_cons_succ])
  refine ai_end (by kernel_rfl) ?_ _
  have j4 := hJ.k0 j1 (k2.then k4)
  have kk4 := kk1.step (k2.then k4) (by simp) hB0
  have hz2 := k2.size
  have T4 := HTb w4 hS4
  clear hw4 hS hS2 j1 kk1 k2 k4 hPan
  gi_wp2
  have hss := maskAll1_seq 8 (belowN c.both (task : Int)) w2.heap.size w4 (by omega) d4 hbl T4
  have hT0 := T4.1
  have hlt : ∀ i, i ∈ bitsL (belowN c.both (task : Int)) → i < x.tasks.length := fun i hi => by
    have := bitsL_mem.1 hi
    rw [belowN_bit _ _ _ this.1] at this
    simp at this
    omega
  have hpf : ∀ (pre : List Nat) (i : Nat) (hi : i < x.tasks.length), pre ++ [i] <+: bitsL (belowN c.both (task : Int)) → termsW x.tasks c L pre ++ [⟨x.tasks[i].per, x.tasks[i].cost, offW c L (i : Int), 0⟩] <+: aheadW x.tasks c L (task : Int) ∧
      termsW x.tasks c L (pre ++ [i]) = termsW x.tasks c L pre ++ [⟨x.tasks[i].per, x.tasks[i].cost, offW c L (i : Int), 0⟩] := fun pre i hi h => by
    have e : termsW x.tasks c L (pre ++ [i]) = termsW x.tasks c L pre ++ [⟨x.tasks[i].per, x.tasks[i].cost, offW c L (i : Int), 0⟩] := by
      unfold termsW
      rw [List.flatMap_append]
      simp [termW, List.getElem?_eq_getElem hi]
    refine ⟨?_, e⟩
    obtain ⟨r, hr⟩ := h
    rw [← e, HAW.out, ← hr]
    exact ⟨r.flatMap (termW x.tasks c L), by unfold termsW; rw [← List.flatMap_append]⟩
  refine wpIn_rangeT (F := Fence.wide) (n := 9) (Lo := LoN) (ps := #[11]) rfl (by omega) (gf := 56) (lb := #[.pointer (some ⟨w2.heap.size, 0, none⟩)]) rfl trivial (enters_of Tryd.func56 (by kernel_rfl) rfl)
    (hss.toT _) Same.trans (fun W _ o' _ _ => same_putO (by simp; omega) o') (Below.refl _ _) (fun _ => rfl)
    (fun pre W' => J (termsW x.tasks c L pre) W' ∧ (ST w0 Bs Bt W.heap.size l (shCells v x c T L) (task : Int) W' ∧ KpU UsT w0.heap.size (w.heap.size + 2) W W' ∧ Blk W' w2.heap.size 36 #[.int .u32 (belowN c.both (task : Int) : Int)]))
    (fun c' _ W' => c' = .ret ∧ ∃ q, q <+: aheadW x.tasks c L (task : Int) ∧ Jx q W')
    ?hI ?hIx ⟨j4, hS4, kk4, d4⟩
    (fun i => { tmps := #[.func (.yield l) #[] #[], .pointer (some ⟨Bs, 0, none⟩), .pointer (some ⟨Bt, 0, none⟩), .pointer (some ⟨W.heap.size, 0, none⟩), .int .i64 (i : Int), .pointer (some ⟨Bs, 4, none⟩), .agg (clsCells c).toArray, .int .u32 (c.both : Int), .int .i64 (task : Int), .int .u32 (belowN c.both (task : Int) : Int),
      .func (.func 56) #[] #[.pointer (some ⟨w2.heap.size, 0, none⟩)], .int .i64 (i : Int), undef, undef, undef, undef, undef, undef, undef, undef, undef, undef, undef, undef, undef, undef, undef, undef, undef, undef, undef, undef, undef], defers := [] }) ?assign ?body ?done ?stop
  case hI =>
    refine OwnFrom.toT (OwnFrom.and ?_ (OwnFrom.and ?_ (OwnFrom.and ?_ ?_)))
    · exact fun pre X Y row hs hg hr => hJ.own _ X Y row hs hg (fun r e => ⟨by have := (hr r e).1; omega, (hr r e).2⟩)
    · exact fun pre X Y row hs hg hr => ⟨blk_own (β := Unit) _ _ (fun _ => _) () X Y row hs.sh hg hr, blk_own (β := Unit) _ _ (fun _ => _) () X Y row hs.tk hg hr, blk_own (β := Unit) _ _ (fun _ => _) () X Y row hs.yl hg hr, by
        have k : Keep row.toList X Y := Keep.of_grown hg
        exact hs.low.trans ⟨k.os, k.tape, k.output, k.size, fun y hy => k.block y (Nat.lt_of_lt_of_le hy hs.low.size) (fun hm => by have := (hr y (by simpa using hm)).1; omega)⟩⟩
    · exact fun pre X Y row hs hg hr => KpU.own hB0 () X Y row hs hg (fun r e => ⟨by have := (hr r e).1; omega, (hr r e).2⟩)
    · exact blk_own _ _ _
  case hIx =>
    intro c'
    refine OwnFrom.toT (OwnFrom.and (fun _ _ _ _ hs _ _ => hs) ?_)
    rintro pre X Y row ⟨q, hq, hs⟩ hg hr
    exact ⟨q, hq, hJx.own _ X Y row hs hg (fun r e => ⟨by have := (hr r e).1; omega, (hr r e).2⟩)⟩
  case assign =>
    intro l' i W' K hK
    simp only [encN]
    gi_wp2
    exact hK
  case body =>
    rintro l' pre i Wb ⟨hj, hs, hk, hd⟩ hpre
    have hi := hlt i (hpre.subset (by simp))
    obtain ⟨hp2, hte⟩ := hpf pre i hi hpre
    have hi1 : (i : Int) < (x.tasks.length : Int) := by omega
    have hi0 : (0 : Int) ≤ (i : Int) := by omega
    have hdec : decide (x.tasks.length ≤ i) = false := by simp; omega
    have HOi := HOf (i : Int) (fun _ => by omega)
    have HTL : Hid ((tskCells x.tasks[i]).length = 11) := tskCells_len (hlon _ (List.getElem_mem hi))
    have HDO := fun w => Lib.hid (demOfO_any x.tasks[i] (offW c L (i : Int)) w)
    have hnn : x.tasks.length ≠ 0 := by omega
    obtain ⟨b, o, hA, hbw, hcs2⟩ := (HIm Wb hs).task (by omega)
    have hTC : ∀ w', ST w0 Bs Bt W.heap.size l (shCells v x c T L) (task : Int) w' → CellsAt w' b (o + i * 11) (tskCells x.tasks[i]) := fun w' h => by
      obtain ⟨b', o', hA', _, hcs'⟩ := (HIm w' h).task (by omega)
      rw [hA] at hA'
      cases hA'
      exact hcs' i hi
    have hSF2 : ∀ w', ST w0 Bs Bt W.heap.size l (shCells v x c T L) (task : Int) w' → w'.cell? ⟨W.heap.size, 0, none⟩ = some (.func (.yield l) #[] #[]) ∧ w'.cell? ⟨Bs, 1, none⟩ = some (.slice (some ⟨b, o, none⟩) x.tasks.length v.tc) := fun w' h => by
      obtain ⟨_, h2, h3⟩ := hSF w' h
      rw [hA] at h3
      exact ⟨h2, h3⟩
    gi_wp2
    refine ai_start (ST w0 Bs Bt W.heap.size l (shCells v x c T L) (task : Int)) rfl rfl (hs.keep0 (Keep.refl _ _).drew) (fun hND hS hPan => ?_)
    have jb := hJ.k0 hj (Keep.refl _ Wb).drew
    have kb : KpU UsT w0.heap.size (w.heap.size + 2) W Wb.drew := hk.step (F := []) (Keep.refl _ Wb).drew (by simp) hB0
    have db : Blk Wb.drew w2.heap.size 36 #[.int .u32 (belowN c.both (task : Int) : Int)] := hd
    have hdr : ∀ k : Nat, Wb.drew.heap[k]? = Wb.heap[k]? := fun k => rfl
    have hdz : Wb.drew.heap.size = Wb.heap.size := rfl
    generalize Wb.drew = wd at *
    clear hSF hSC HIm HTb hpf hss HOf hlt
    (refine ai_val (v := ?_) 0 rfl (open_round _) hND (by kernel_rfl) (by kernel_rfl) (by kernel_rfl) (by rfl) hPan ?_ hS ?_; rotate_left; (intro w' hSw; obtain ⟨f0, f1⟩ := hSF2 w' hSw; go_simp; try with_reducible rfl); simp only [Act.put, List.setIfInBounds_toArray, List.set_cons_zero, List.set_cons_succ])
    (refine ai_val (v := ?_) 1 rfl (open_round _) hND (by kernel_rfl) (by kernel_rfl) (by kernel_rfl) (by rfl) hPan ?_ hS ?_; rotate_left; (intro w' hSw; obtain ⟨f0, f1⟩ := hSF2 w' hSw; go_simp; try with_reducible rfl); simp only [Act.put, List.setIfInBounds_toArray, List.set_cons_zero, List.set_cons_succ])
    (refine ai_val (v := ?_) 2 rfl (open_round _) hND (by kernel_rfl) (by kernel_rfl) (by kernel_rfl) (by rfl) hPan ?_ hS ?_; rotate_left; (intro w' hSw; obtain ⟨f0, f1⟩ := hSF2 w' hSw; go_simp; try with_reducible rfl); simp only [Act.put, List.setIfInBounds_toArray, List.set_cons_zero, List.set_cons_succ])
    (refine ai_val (v := ?_) 3 rfl (open_round _) hND (by kernel_rfl) (by kernel_rfl) (by kernel_rfl) (by rfl) hPan ?_ hS ?_; rotate_left; (intro w' hSw; obtain ⟨f0, f1⟩ := hSF2 w' hSw; go_simp; try with_reducible rfl); simp only [Act.put, List.setIfInBounds_toArray, List.set_cons_zero, List.set_cons_succ])
    (refine ai_val (v := ?_) 4 rfl (open_round _) hND (by kernel_rfl) (by kernel_rfl) (by kernel_rfl) (by rfl) hPan ?_ hS ?_; rotate_left; (intro w' hSw; obtain ⟨f0, f1⟩ := hSF2 w' hSw; go_simp; try with_reducible rfl); simp only [Act.put, List.setIfInBounds_toArray, List.set_cons_zero, List.set_cons_succ])
    (refine ai_val (v := ?_) 5 rfl (open_round _) hND (by kernel_rfl) (by kernel_rfl) (by kernel_rfl) (by rfl) hPan ?_ hS ?_; rotate_left; (intro w' hSw; obtain ⟨f0, f1⟩ := hSF2 w' hSw; go_simp; try with_reducible rfl); simp only [Act.put, List.setIfInBounds_toArray, List.set_cons_zero, List.set_cons_succ])
    (refine ai_val (v := ?_) 6 rfl (open_round _) hND (by kernel_rfl) (by kernel_rfl) (by kernel_rfl) (by rfl) hPan ?_ hS ?_; rotate_left; (intro w' hSw; obtain ⟨f0, f1⟩ := hSF2 w' hSw; go_simp; try with_reducible rfl); simp only [Act.put, List.setIfInBounds_toArray, List.set_cons_zero, List.set_cons_succ])
    (refine ai_val (v := ?_) 7 rfl (open_round _) hND (by kernel_rfl) (by kernel_rfl) (by kernel_rfl) (by rfl) hPan ?_ hS ?_; rotate_left; (intro w' hSw; obtain ⟨f0, f1⟩ := hSF2 w' hSw; go_simp; try with_reducible rfl); simp only [Act.put, List.setIfInBounds_toArray, List.set_cons_zero, List.set_cons_succ])
    (refine ai_val (v := ?_) 8 rfl (open_round _) hND (by kernel_rfl) (by kernel_rfl) (by kernel_rfl) (by rfl) hPan ?_ hS ?_; rotate_left; (intro w' hSw; obtain ⟨f0, f1⟩ := hSF2 w' hSw; go_simp; try with_reducible rfl); simp only [Act.put, List.setIfInBounds_toArray, List.set_cons_zero, List.set_cons_succ])
    (refine ai_val (v := ?_) 9 rfl (open_round _) hND (by kernel_rfl) (by kernel_rfl) (by kernel_rfl) (by rfl) hPan ?_ hS ?_; rotate_left; (intro w' hSw; obtain ⟨f0, f1⟩ := hSF2 w' hSw; go_simp; try with_reducible rfl); simp only [Act.put, List.setIfInBounds_toArray, List.set_cons_zero, List.set_cons_succ])
    (refine ai_val (v := ?_) 10 rfl (open_round _) hND (by kernel_rfl) (by kernel_rfl) (by kernel_rfl) (by rfl) hPan ?_ hS ?_; rotate_left; (intro w' hSw; obtain ⟨f0, f1⟩ := hSF2 w' hSw; go_simp; try with_reducible rfl); simp only [Act.put, List.setIfInBounds_toArray, List.set_cons_zero, List.set_cons_succ])
    (refine ai_val (v := ?_) 11 rfl (open_round _) hND (by kernel_rfl) (by kernel_rfl) (by kernel_rfl) (by rfl) hPan ?_ hS ?_; rotate_left; (intro w' hSw; obtain ⟨f0, f1⟩ := hSF2 w' hSw; go_simp; try with_reducible rfl); simp only [Act.put, List.setIfInBounds_toArray, List.set_cons_zero, List.set_cons_succ])
    (refine ai_val (v := ?_) 12 rfl (open_round _) hND (by kernel_rfl) (by kernel_rfl) (by kernel_rfl) (by rfl) hPan ?_ hS ?_; rotate_left; (intro w' hSw; obtain ⟨f0, f1⟩ := hSF2 w' hSw; go_simp; try with_reducible rfl); simp only [Act.put, List.setIfInBounds_toArray, List.set_cons_zero, List.set_cons_succ])
    refine ai_agg 13 88 (.tmp 24) (tskCells x.tasks[i]) rfl (open_round _) hND (by kernel_rfl) (by kernel_rfl) (by kernel_rfl) (by rfl) hPan rfl rfl (by rw [HTL.out]; exact agg_task) hTC hS ?_
    (simp only [Act.put, List.setIfInBounds_toArray, List.set_cons_zero, List.set_cons_succ])
    refine ai_agg 14 120 (.tmp 1) (shCells v x c T L) rfl (open_round _) hND (by kernel_rfl) (by kernel_rfl) (by kernel_rfl) (by rfl) hPan rfl rfl (by rw [HSL.out]; exact agg_shift) hSA hS ?_
    (simp only [Act.put, List.setIfInBounds_toArray, List.set_cons_zero, List.set_cons_succ])
    (refine ai_val (v := ?_) 15 rfl (open_round _) hND (by kernel_rfl) (by kernel_rfl) (by kernel_rfl) (by rfl) hPan ?_ hS ?_; rotate_left; (intro w' hSw; obtain ⟨f0, f1⟩ := hSF2 w' hSw; go_simp; try with_reducible rfl); simp only [Act.put, List.setIfInBounds_toArray, List.set_cons_zero, List.set_cons_succ])
    refine ai_one 16 (by kernel_rfl) (oi_call (f := 64) 16 rfl (open_round _) hND (by rfl) rfl (by simp only [List.map_toArray, List.map_cons, List.map_nil]; rfl) Tryd.func64 (by kernel_rfl) (by kernel_rfl) (HOi _).out ?_)
    rintro e w6 ⟨rfl, k6⟩
    have hS6 := hS.keep0 k6
    refine ⟨_, rfl, hS6, ?_⟩
    clear hS
    (simp only [Act.put, List.setIfInBounds_toArray, List.set_cons_zero, List.set_cons_succ])
    refine ai_one 17 (by kernel_rfl) (oi_call (f := 71) 17 rfl (open_round _) hND (by rfl) rfl (by simp only [List.map_toArray, List.map_cons, List.map_nil]; rfl) Tryd.func71 (by kernel_rfl) (by kernel_rfl) (HDO _).out ?_)
    rintro e w7 ⟨rfl, k7⟩
    have hS := hS6.keep0 k7
    refine ⟨_, rfl, hS, ?_⟩
    have k67 := k6.then k7
    have j7 := hJ.k0 jb k67
    have kk7 := kb.step k67 (by simp) hB0
    have d7 := db.keep0 k67
    have z7 := k67.size
    clear hS6
    (simp only [Act.put, List.setIfInBounds_toArray, List.set_cons_zero, List.set_cons_succ])
    refine ai_one 18 (by kernel_rfl) (oi_yield 18 rfl (open_round _) hND (by rfl) rfl rfl (vs := #[.agg (trmCells ⟨x.tasks[i].per, x.tasks[i].cost, offW c L (i : Int), 0⟩).toArray]) (by simp only [List.map_toArray, List.map_cons, List.map_nil]; rfl) (hR 6 _ _ w7 j7 hp2) rfl ?_)
    rintro e w8 (⟨rfl, j8, kr⟩ | ⟨rfl, jx, kr⟩)
    all_goals
      have d8 := kr.blk d7 (by decide)
      have hS8 := hS.kp kr (Nat.le_refl _)
      have hkf : KeepsFrom w4.heap.size Wb w8 := ⟨by have := kr.other.size; omega, fun k o hk2 ho hc => kr.other.same k o (by omega) ((k67.block k (by have := (Array.getElem?_eq_some_iff.1 ho).1; omega) (by simp)).trans ((hdr k).trans ho)) hc⟩
      have hsm : Same [w2.heap.size, 0] Wb w8 := by
        intro y hy
        simp only [List.mem_cons, List.not_mem_nil, or_false] at hy
        rcases hy with rfl | rfl
        · exact (show w8.heap[w2.heap.size]? = _ from d8).trans (show Wb.heap[w2.heap.size]? = _ from hd).symm
        · exact (kr.below.block _ hT00).trans ((k67.block _ (by have := kb.below.size; omega) (by simp)).trans (hdr _))
      refine ⟨_, rfl, hS8, ?_⟩
      replace hS := hS8
      (simp only [Act.put, List.setIfInBounds_toArray, List.set_cons_zero, List.set_cons_succ])
      (refine ai_val (v := ?_) 19 rfl (open_round _) hND (by kernel_rfl) (by kernel_rfl) (by kernel_rfl) (by rfl) hPan ?_ hS ?_; rotate_left; (intro w' hSw; go_simp; try with_reducible rfl); simp only [Act.put, List.setIfInBounds_toArray, List.set_cons_zero, List.set_cons_succ])
      (refine ai_val (v := ?_) 20 rfl (open_round _) hND (by kernel_rfl) (by kernel_rfl) (by kernel_rfl) (by rfl) hPan ?_ hS ?_; rotate_left; (intro w' hSw; go_simp; try with_reducible rfl); simp only [Act.put, List.setIfInBounds_toArray, List.set_cons_zero, List.set_cons_succ])
      refine ai_end (by kernel_rfl) ?_ _
      gi_wp2
    · exact ⟨hkf, hsm, by rw [hte]; exact j8, hS8, kk7.trans kr, d8⟩
    · exact ⟨hkf, hsm, rfl, _, hp2, jx⟩
  case done =>
    rintro D Wd hD ⟨hj, hs, hk, hd⟩ hD2
    gi_wp2
    refine ⟨by simp, .inl ⟨_, _, rfl, run_takeDeferred hD2, ?_⟩⟩
    refine ⟨_, by simp [results, Tryd.results82, go_sem]; rfl, ⟨_, rfl⟩, .inl ?_⟩
    rw [HAW.out]
    exact hJ.own.putObj _ hj (by omega) hD2 rfl
  case stop =>
    rintro D c' pre Wd hD hpre ⟨rfl, q, hq, hjx⟩ hD2
    gi_wp2
    refine ⟨by simp, .inl ⟨_, _, rfl, run_takeDeferred hD2, ?_⟩⟩
    exact ⟨_, by simp [results, Tryd.results82, go_sem]; rfl, ⟨_, rfl⟩, .inr ⟨q, hq, hJx.own.putObj _ hjx (by omega) hD2 rfl⟩⟩
end Go.Proofs.YteflgdnekflbbaaDoor
