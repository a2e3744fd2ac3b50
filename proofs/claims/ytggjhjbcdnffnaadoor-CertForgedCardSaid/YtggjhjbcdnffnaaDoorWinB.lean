/- What becomes of tasks along an edge (class), and a change that has begun (window.New, offset). Condition: the table of math/bits lies where the program's text lays it, where ceilings are asked for. A change that has begun: window.New; the work that goes ahead of a task, as an iterator. Condition: the table of math/bits lies where the program's text lays it. -/
import Derived.Test.YtggjhjbcdnffnaaDoorWinPlain
import Derived.Test.YtggjhjbcdnffnaaDoorKpU
namespace Go.Proofs.YtggjhjbcdnffnaaDoor
open Go.RowKit

def clsCells (c : Cls) : List Value := [.int .u32 (c.old : Int), .int .u32 (c.new : Int), .int .u32 (c.same : Int)]
theorem agg_cls : AggOf Tryd.prog 33 3 := ⟨by kernel_rfl, by kernel_rfl⟩
theorem agg_offs : AggOf Tryd.prog 27 16 := ⟨by kernel_rfl, by kernel_rfl⟩
theorem agg_shift : AggOf Tryd.prog 37 31 := ⟨by kernel_rfl, by kernel_rfl⟩
/-- A change that has begun: the image, the classes, the ceilings, the offsets. -/
def shCells (v : ImgV) (x : Img) (c : Cls) (T L : List Int) : List Value := imgCells v x ++ (clsCells c ++ (iv T ++ iv L))
theorem shCells_len (v : ImgV) (x : Img) (c : Cls) {T L : List Int} (hT : T.length = 8) (hL : L.length = 16) : (shCells v x c T L).length = 31 := by
  simp [shCells, imgCells, clsCells, hT, hL]
theorem list8 {α : Type} {l : List α} (h : l.length = 8) : ∃ a b c d e f g i, l = [a, b, c, d, e, f, g, i] :=
  match l, h with | [a, b, c, d, e, f, g, i], _ => ⟨a, b, c, d, e, f, g, i, rfl⟩
theorem list16 {α : Type} {l : List α} (h : l.length = 16) : ∃ a b c d e f g i j k m n o p q r, l = [a, b, c, d, e, f, g, i, j, k, m, n, o, p, q, r] :=
  match l, h with | [a, b, c, d, e, f, g, i, j, k, m, n, o, p, q, r], _ => ⟨a, b, c, d, e, f, g, i, j, k, m, n, o, p, q, r, rfl⟩
set_option maxRecDepth 100000 in
theorem run_build_shift (v : ImgV) (x : Img) (c : Cls) {T L : List Int} (hT : T.length = 8) (hL : L.length = 16) (w : World) :
    (Instr.build 37 #[(0, .agg (imgCells v x).toArray), (1, .agg (clsCells c).toArray), (2, .agg (iv T).toArray), (3, .agg (iv L).toArray)]).run Tryd.prog w = .ok (.agg (shCells v x c T L).toArray) w := by
  obtain ⟨t0, t1, t2, t3, t4, t5, t6, t7, rfl⟩ := list8 hT
  obtain ⟨l0, l1, l2, l3, l4, l5, l6, l7, l8, l9, l10, l11, l12, l13, l14, l15, rfl⟩ := list16 hL
  kernel_rfl

set_option maxRecDepth 100000 in
theorem both_any (c : Cls) (w : World) (h : c.Ok) : Calls Tryd.prog 38 #[.agg (clsCells c).toArray] w fun e w' => e = .returned (.int .u32 (c.both : Int)) ∧ Keep [] w w' := by
  have K0 := (Keep.refl [] w).alloc (.cells (clsCells c).toArray 33)
  have hb := Blk.new w 33 (clsCells c).toArray
  have h1 := u32_or_nat c.old c.new h.old h.new
  have h2 := u32_or_nat (c.old ||| c.new) c.same (Nat.or_lt_two_pow (n := 32) h.old h.new) h.same
  have HB : Hid (bits .or .u32 (bits .or .u32 (c.old : Int) (c.new : Int)) (c.same : Int) = (c.both : Int)) := by show _ = _; rw [h1, h2]; rfl
  have c0 : (w.alloc (.cells (clsCells c).toArray 33)).cell? ⟨w.heap.size, 0, none⟩ = some (.int .u32 (c.old : Int)) := by rw [hb.cell]; rfl
  have c1 : (w.alloc (.cells (clsCells c).toArray 33)).cell? ⟨w.heap.size, 1, none⟩ = some (.int .u32 (c.new : Int)) := by rw [hb.cell]; rfl
  have c2 : (w.alloc (.cells (clsCells c).toArray 33)).cell? ⟨w.heap.size, 2, none⟩ = some (.int .u32 (c.same : Int)) := by rw [hb.cell]; rfl
  clear hb h1 h2
  generalize (clsCells c).toArray = cs at *
  go_enter Tryd.func38, Tryd.ntmps38
  go_wp2
  go_ret
  exact ⟨congrArg (fun n => Ending.returned (.int .u32 n)) HB.out, K0⟩
set_option maxRecDepth 100000 in
theorem cto_any (c : Cls) (w : World) (h : c.Ok) : Calls Tryd.prog 45 #[.agg (clsCells c).toArray] w fun e w' => e = .returned (.int .u32 (c.to : Int)) ∧ Keep [] w w' := by
  have K0 := (Keep.refl [] w).alloc (.cells (clsCells c).toArray 33)
  have hb := Blk.new w 33 (clsCells c).toArray
  have h1 := u32_or_nat c.new c.same h.new h.same
  have HB : Hid (bits .or .u32 (c.new : Int) (c.same : Int) = (c.to : Int)) := by show _ = _; rw [h1]; rfl
  have c1 : (w.alloc (.cells (clsCells c).toArray 33)).cell? ⟨w.heap.size, 1, none⟩ = some (.int .u32 (c.new : Int)) := by rw [hb.cell]; rfl
  have c2 : (w.alloc (.cells (clsCells c).toArray 33)).cell? ⟨w.heap.size, 2, none⟩ = some (.int .u32 (c.same : Int)) := by rw [hb.cell]; rfl
  clear hb h1
  generalize (clsCells c).toArray = cs at *
  go_enter Tryd.func45, Tryd.ntmps45
  go_wp2
  go_ret
  exact ⟨congrArg (fun n => Ending.returned (.int .u32 n)) HB.out, K0⟩
set_option maxRecDepth 100000 in
theorem clsOf_any (f t : Nat) (w : World) (hf : f < 4294967296) (ht : t < 4294967296) : Calls Tryd.prog 69 #[.int .u32 (f : Int), .int .u32 (t : Int)] w fun e w' => e = .returned (.agg (clsCells (clsOf f t)).toArray) ∧ Keep [] w w' := by
  have h1 := u32_andNot_nat f t hf ht
  have h2 := u32_andNot_nat t f ht hf
  have h3 := u32_and_nat f t hf ht
  have HC : Hid (clsCells (clsOf f t) = [.int .u32 (bits .andNot .u32 (f : Int) (t : Int)), .int .u32 (bits .andNot .u32 (t : Int) (f : Int)), .int .u32 (bits .and .u32 (f : Int) (t : Int))]) := by show _ = _; rw [h1, h2, h3]; rfl
  clear h1 h2 h3
  go_enter Tryd.func69, Tryd.ntmps69
  go_wp2_with (refine stop_store 33 (.tmp 4) (.tmp 14) rfl ?_)
  constructor
  refine wpList_store_all rfl 33 (.tmp 4) (.tmp 14) rfl rfl (congrArg (fun l => Value.agg (List.toArray l)) HC.out.symm) (vs := clsCells (clsOf f t)) (by kernel_rfl) (Blk.new _ _ _) (by simp [clsCells, Value.oneCell']) rfl ?_
  intro w5 d5 k5
  have K5 : Keep [] w w5 := ((Keep.refl [] w).alloc _).trans k5 (fun y hy hlt => by simp at hy; omega)
  go_wp2
  refine bodyPost_ret (results_blk rfl _ rfl d5 agg_cls) rfl ?_
  exact ⟨rfl, K5⟩
/-- The classes of an edge. -/
def clsE (x : Img) (k : Nat) : Cls := match x.edges[k]? with | some e => clsOf (setOf10 x e.frm) (setOf10 x e.to) | none => ⟨0, 0, 0⟩
theorem clsE_ok (x : Img) (k : Nat) (h : x.Ok) : (clsE x k).Ok := by
  unfold clsE
  split
  · exact clsOf_ok (setOf10_lt x _ h) (setOf10_lt x _ h)
  · exact ⟨by decide, by decide, by decide⟩
set_option maxRecDepth 100000 in
set_option maxHeartbeats 1000000 in
theorem clsEdge_any (v : ImgV) (x : Img) (k : Nat) (w : World) (h : ImgAt w v x) (hk : k < x.edges.length) :
    Calls Tryd.prog 36 #[.agg (imgCells v x).toArray, .int .i64 (k : Int)] w fun e w' => e = .returned (.agg (clsCells (clsE x k)).toArray) ∧ Keep [] w w' := by
  have hl := h.le
  unfold maxLen at hl
  obtain ⟨W0, hW0⟩ : ∃ W0, (w.alloc (.cells (imgCells v x).toArray 26)).alloc (.cells #[.int .u32 0, .int .u32 0, .int .u32 0] 33) = W0 := ⟨_, rfl⟩
  have b0 : Blk W0 w.heap.size 26 (imgCells v x).toArray := by rw [← hW0]; exact (img_box w v x).alloc _
  have b1 : Blk W0 (w.heap.size + 1) 33 #[.int .u32 0, .int .u32 0, .int .u32 0] := by rw [← hW0]; exact Blk.new1 _ _ _ _
  have K0 : Keep [] w W0 := by rw [← hW0]; exact ((Keep.refl _ w).alloc _).alloc _
  have hsz : W0.heap.size = w.heap.size + 2 := by rw [← hW0]; simp
  have c3 : W0.cell? ⟨w.heap.size, 3, none⟩ = some (.slice v.ea x.edges.length v.ec) := by rw [b0.cell]; rfl
  obtain ⟨b, o, hA, hbw, hcs⟩ := h.edge (by omega)
  have hct := (hcs k hk).keep0 K0 hbw
  have hbw0 := Nat.lt_of_lt_of_le hbw K0.size
  have e0 : W0.cell? ⟨b, o + k * 23, none⟩ = some (.int .i64 x.edges[k].frm) := hct 0 _ rfl
  have e1 : W0.cell? ⟨b, o + k * 23 + 1, none⟩ = some (.int .i64 x.edges[k].to) := hct 1 _ rfl
  have HF : ∀ w', Keep [] W0 w' → w'.cell? ⟨w.heap.size, 3, none⟩ = some (.slice v.ea x.edges.length v.ec) ∧ w'.cell? ⟨b, o + k * 23, none⟩ = some (.int .i64 x.edges[k].frm) ∧ w'.cell? ⟨b, o + k * 23 + 1, none⟩ = some (.int .i64 x.edges[k].to) := fun w' hk' =>
    ⟨(hk'.cell (p := ⟨w.heap.size, 3, none⟩) b0.lt (by simp)).trans c3, (hk'.cell (p := ⟨b, o + k * 23, none⟩) hbw0 (by simp)).trans e0, (hk'.cell (p := ⟨b, o + k * 23 + 1, none⟩) hbw0 (by simp)).trans e1⟩
  have HCA : ∀ w', Keep [] W0 w' → CellsAt w' w.heap.size 0 (imgCells v x) := fun w' hk' => (b0.keep0 hk').cellsAt
  have HT1 := fun w' hk' => Lib.hid (tasks_any v x x.edges[k].frm w' (h.keep0 (K0.then hk')))
  have HT2 := fun w' hk' => Lib.hid (tasks_any v x x.edges[k].to w' (h.keep0 (K0.then hk')))
  have hs1 := setOf10_lt x x.edges[k].frm h.ok
  have hs2 := setOf10_lt x x.edges[k].to h.ok
  have HCO := fun w => Lib.hid (clsOf_any (setOf10 x x.edges[k].frm) (setOf10 x x.edges[k].to) w hs1 hs2)
  have HCE : Hid (clsE x k = clsOf (setOf10 x x.edges[k].frm) (setOf10 x x.edges[k].to)) := by show _ = _; unfold clsE; rw [List.getElem?_eq_getElem hk]
  have HIL : Hid ((imgCells v x).length = 4) := show _ = _ from rfl
  have B1 := Lib.hid b1
  have p0 : (0 : Int) ≤ (k : Int) := by omega
  have p1 : (k : Int) < (x.edges.length : Int) := by omega
  have HW := Lib.hid hW0
  rw [hA] at HF c3
  clear h hcs hct b0 b1 e0 e1 hW0
  generalize clsOf (setOf10 x x.edges[k].frm) (setOf10 x x.edges[k].to) = ce at *
  generalize setOf10 x x.edges[k].frm = s1 at *
  generalize setOf10 x x.edges[k].to = s2 at *
  generalize x.edges[k].frm = ef at *
  generalize x.edges[k].to = et at *
  generalize imgCells v x = il at *
  go_enter Tryd.func36, Tryd.ntmps36
  go_wp2_with (rw [HW.out])
  refine wp_region_flow_tail 17 (Keep [] W0) rfl (by kernel_rfl) (Keep.refl _ _).drew ?_
  refine fl_agg 26 (.tmp 2) il rfl rfl rfl (by rw [HIL.out]; exact agg_image) HCA ?_
  simp only [Act.put, List.setIfInBounds_toArray, List.set_cons_zero, List.set_cons_succ]
  repeat (refine fl_val (v := ?_) (by rfl) ?_ ?_; rotate_left; (intro w' hS; obtain ⟨f1,f2,f3⟩ := HF w' hS; go_simp; with_reducible rfl); simp only [Act.put, List.setIfInBounds_toArray, List.set_cons_zero, List.set_cons_succ])
  refine fl_call (f := 64) (v := .int .u32 (s1 : Int)) (by rfl) rfl (by simp only [List.map_toArray, List.map_cons, List.map_nil]; rfl) Tryd.func64 (by kernel_rfl) (by kernel_rfl) (fun w' hS => ((HT1 w' hS).out.mono (fun e w'' h => ⟨h.1, hS.then h.2⟩))) ?_; simp only [Act.put, List.setIfInBounds_toArray, List.set_cons_zero, List.set_cons_succ]
  refine fl_agg 26 (.tmp 2) il rfl rfl rfl (by rw [HIL.out]; exact agg_image) HCA ?_
  simp only [Act.put, List.setIfInBounds_toArray, List.set_cons_zero, List.set_cons_succ]
  repeat (refine fl_val (v := ?_) (by rfl) ?_ ?_; rotate_left; (intro w' hS; obtain ⟨f1,f2,f3⟩ := HF w' hS; go_simp; with_reducible rfl); simp only [Act.put, List.setIfInBounds_toArray, List.set_cons_zero, List.set_cons_succ])
  refine fl_call (f := 64) (v := .int .u32 (s2 : Int)) (by rfl) rfl (by simp only [List.map_toArray, List.map_cons, List.map_nil]; rfl) Tryd.func64 (by kernel_rfl) (by kernel_rfl) (fun w' hS => ((HT2 w' hS).out.mono (fun e w'' h => ⟨h.1, hS.then h.2⟩))) ?_; simp only [Act.put, List.setIfInBounds_toArray, List.set_cons_zero, List.set_cons_succ]
  refine fl_call (f := 69) (v := .agg (clsCells ce).toArray) (by rfl) rfl (by simp only [List.map_toArray, List.map_cons, List.map_nil]; rfl) Tryd.func69 (by kernel_rfl) (by kernel_rfl) (fun w' hS => ((HCO w').out.mono (fun e w'' h => ⟨h.1, hS.then h.2⟩))) ?_; simp only [Act.put, List.setIfInBounds_toArray, List.set_cons_zero, List.set_cons_succ]
  refine fl_nil ?_
  intro w4 hS
  refine wpList_store_all rfl 33 (.tmp 4) (.tmp 31) rfl rfl rfl (vs := clsCells ce) (by kernel_rfl) (B1.out.keep0 hS) (by simp [clsCells, Value.oneCell']) rfl ?_
  intro w5 d5 k5
  have hsz := K0.size
  have K5 : Keep [] w w5 := (K0.then hS).trans k5 (fun y hy hlt => by simp at hy; omega)
  go_wp2
  refine bodyPost_ret (results_blk rfl _ rfl d5 agg_cls) rfl ?_
  exact ⟨by rw [HCE.out], K5⟩
set_option maxRecDepth 100000 in
theorem off_any (v : ImgV) (x : Img) (c : Cls) (T L : List Int) (i : Int) (w : World) (h : c.Ok) (hT : T.length = 8) (hL : L.length = 16) (hi : has10 c.new i = true → i < 16) :
    Calls Tryd.prog 44 #[.agg (shCells v x c T L).toArray, .int .i64 i] w fun e w' => e = .returned (.int .i64 (offW c L i)) ∧ Keep [] w w' := by
  have hb := Blk.new w 37 (shCells v x c T L).toArray
  obtain ⟨W0, hW0⟩ : ∃ W0, w.alloc (.cells (shCells v x c T L).toArray 37) = W0 := ⟨_, rfl⟩
  rw [hW0] at hb
  have K0 : Keep [] w W0 := by rw [← hW0]; exact (Keep.refl _ w).alloc _
  have c5 : W0.cell? ⟨w.heap.size, 5, none⟩ = some (.int .u32 (c.new : Int)) := by rw [hb.cell]; rfl
  have HH := fun w => Lib.hid (has_any c.new i w h.new)
  have HE := has_bitN c.new i
  cases hh : has10 c.new i with
  | false =>
    rw [hh] at HE
    rw [HE] at HH
    have HO : Hid (offW c L i = 0) := by show _ = _; unfold offW; rw [hh]; rfl
    have HW := Lib.hid hW0
    clear hW0 hb HE
    generalize (shCells v x c T L).toArray = cs at *
    go_enter Tryd.func44, Tryd.ntmps44
    go_wp2_with (first | rw [HW.out] | (refine (HH _).out.mono ?_; rintro e w5 ⟨rfl, rfl⟩))
    go_ret
    exact ⟨by rw [HO.out]; rfl, K0⟩
  | true =>
    rw [hh] at HE
    rw [HE] at HH
    have hi2 := hi hh
    have hi0 : 0 ≤ i := by unfold has10 at hh; simp at hh; omega
    obtain ⟨k, rfl⟩ : ∃ k : Nat, i = (k : Int) := ⟨i.toNat, by omega⟩
    have hk : k < 16 := by omega
    have HO : Hid (offW c L (k : Int) = L.getD k 0) := by show _ = _; unfold offW; rw [hh]; rfl
    have c6 : W0.cell? ⟨w.heap.size, 15 + k, none⟩ = some (.int .i64 (L.getD k 0)) := by
      rw [hb.cell]
      have : (shCells v x c T L)[15 + k]? = some (.int .i64 (L.getD k 0)) := by
        unfold shCells
        rw [List.getElem?_append_right (by simp [imgCells]; omega), List.getElem?_append_right (by simp [imgCells, clsCells]; omega), List.getElem?_append_right (by simp [imgCells, clsCells, hT]; omega)]
        simp only [imgCells, clsCells, iv_len, hT, List.length_cons, List.length_nil]
        rw [show 15 + k - (0 + 1 + 1 + 1 + 1) - (0 + 1 + 1 + 1) - 8 = k by omega, iv_get (by omega), List.getD_eq_getElem?_getD, List.getElem?_eq_getElem (by omega)]
        rfl
      simpa using this
    have HW := Lib.hid hW0
    clear hW0 hb HE
    generalize (shCells v x c T L).toArray = cs at *
    generalize L.getD k 0 = z at *
    have p0 : (0 : Int) ≤ (k : Int) := by omega
    have p1 : (k : Int) < 16 := by omega
    go_enter Tryd.func44, Tryd.ntmps44
    go_wp2_with (first | rw [HW.out] | (refine (HH _).out.mono ?_; rintro e w5 ⟨rfl, rfl⟩))
    go_ret
    exact ⟨by rw [HO.out]; rfl, K0⟩
end Go.Proofs.YtggjhjbcdnffnaaDoor

namespace Go.Proofs.YtggjhjbcdnffnaaDoor
open Go.RowKit
attribute [local go_sem] Oper.semAt_some noOut_normal

def shZero : List Value := [.int .i64 0, .slice none 0 0, .slice none 0 0, .slice none 0 0, .int .u32 0, .int .u32 0, .int .u32 0, .int .i64 0, .int .i64 0, .int .i64 0, .int .i64 0, .int .i64 0, .int .i64 0, .int .i64 0, .int .i64 0, .int .i64 0, .int .i64 0, .int .i64 0, .int .i64 0, .int .i64 0, .int .i64 0, .int .i64 0, .int .i64 0, .int .i64 0, .int .i64 0, .int .i64 0, .int .i64 0, .int .i64 0, .int .i64 0, .int .i64 0, .int .i64 0]
theorem shZero_one : ∀ u ∈ shZero, u.oneCell' = true := by decide
theorem shCells_one (v : ImgV) (x : Img) (c : Cls) (T L : List Int) : ∀ u ∈ shCells v x c T L, u.oneCell' = true := by
  intro u hu
  unfold shCells at hu
  rw [List.mem_append, List.mem_append, List.mem_append] at hu
  rcases hu with hu | hu | hu | hu
  · simp only [imgCells, List.mem_cons, List.not_mem_nil, or_false] at hu
    rcases hu with rfl | rfl | rfl | rfl <;> rfl
  · simp only [clsCells, List.mem_cons, List.not_mem_nil, or_false] at hu
    rcases hu with rfl | rfl | rfl <;> rfl
  · exact iv_one T u hu
  · exact iv_one L u hu
/-- The ceilings of an edge's tasks. -/
def tabE (x : Img) (k : Nat) : List Int := ceilOf x.tasks (clsE x k).both
theorem tabE_len (x : Img) (k : Nat) : (tabE x k).length = 8 := ceilIn_len _ _
set_option maxRecDepth 100000 in
set_option maxHeartbeats 1000000 in
theorem new_out (v : ImgV) (x : Img) (edge : Int) (L : List Int) (w : World) (h : ImgAt w v x) (he : edge < 0 ∨ (x.edges.length : Int) ≤ edge) :
    Calls Tryd.prog 11 #[.agg (imgCells v x).toArray, .int .i64 edge, .agg (iv L).toArray] w fun e w' => e = .returned (.tuple #[.agg shZero.toArray, .bool false]) ∧ Keep [] w w' := by
  have hl := h.le
  unfold maxLen at hl
  obtain ⟨W0, hW0⟩ : ∃ W0, ((w.alloc (.cells (imgCells v x).toArray 26)).alloc (.cells (iv L).toArray 27)).alloc (.cells shZero.toArray 37) = W0 := ⟨_, rfl⟩
  have b0 : Blk W0 w.heap.size 26 (imgCells v x).toArray := by rw [← hW0]; exact ((Blk.new _ _ _).alloc _).alloc _
  have b2 : Blk W0 (w.heap.size + 2) 37 shZero.toArray := by rw [← hW0]; exact Blk.new2 _ _ _ _ _
  have K0 : Keep [] w W0 := by rw [← hW0]; exact (((Keep.refl _ w).alloc _).alloc _).alloc _
  have hsz : W0.heap.size = w.heap.size + 3 := by rw [← hW0]; simp
  have c3 : W0.cell? ⟨w.heap.size, 3, none⟩ = some (.slice v.ea x.edges.length v.ec) := by rw [b0.cell]; rfl
  have HW : Hid (((w.alloc (.cells (imgCells v x).toArray 26)).alloc (.cells (iv L).toArray 27)).alloc (.cells #[.int .i64 0, .slice none 0 0, .slice none 0 0, .slice none 0 0, .int .u32 0, .int .u32 0, .int .u32 0, .int .i64 0, .int .i64 0, .int .i64 0, .int .i64 0, .int .i64 0, .int .i64 0, .int .i64 0, .int .i64 0, .int .i64 0, .int .i64 0, .int .i64 0, .int .i64 0, .int .i64 0, .int .i64 0, .int .i64 0, .int .i64 0, .int .i64 0, .int .i64 0, .int .i64 0, .int .i64 0, .int .i64 0, .int .i64 0, .int .i64 0, .int .i64 0] 37) = W0) := hW0
  clear hW0 h b0
  generalize (imgCells v x).toArray = cs at *
  generalize (iv L).toArray = lc at *
  have he2 : edge < 0 ∨ (0 ≤ edge ∧ (x.edges.length : Int) ≤ edge) := by omega
  rcases he2 with h1 | ⟨h1, h2⟩
  all_goals
    go_enter Tryd.func11, Tryd.ntmps11
    go_wp2_with (first
      | rw [HW.out]
      | (refine stop_store 37 (.tmp 6) (.tmp 18) rfl ?_))
    constructor
    first | rw [HW.out] | skip
    refine wpList_store_all rfl 37 (.tmp 6) (.tmp 18) rfl rfl rfl (vs := shZero) (by kernel_rfl) b2 shZero_one rfl ?_
    intro w5 d5 k5
    have K5 : Keep [] w w5 := K0.trans k5 (fun y hy hlt => by simp at hy; omega)
    go_wp2
    refine bodyPost_ret (results_cell_tmp rfl _ rfl rfl d5 agg_shift) rfl ?_
    exact ⟨rfl, K5⟩
set_option maxRecDepth 100000 in
set_option maxHeartbeats 1000000 in
theorem new_in (v : ImgV) (x : Img) (k : Nat) (L : List Int) (w : World) (hTb : Tab w) (h : ImgAt w v x) (hk : k < x.edges.length) (hL : L.length = 16) :
    Calls Tryd.prog 11 #[.agg (imgCells v x).toArray, .int .i64 (k : Int), .agg (iv L).toArray] w fun e w' => e = .returned (.tuple #[.agg (shCells v x (clsE x k) (tabE x k) L).toArray, .bool true]) ∧ Keep [] w w' := by
  have hl := h.le
  unfold maxLen at hl
  obtain ⟨W0, hW0⟩ : ∃ W0, ((w.alloc (.cells (imgCells v x).toArray 26)).alloc (.cells (iv L).toArray 27)).alloc (.cells shZero.toArray 37) = W0 := ⟨_, rfl⟩
  have b0 : Blk W0 w.heap.size 26 (imgCells v x).toArray := by rw [← hW0]; exact ((Blk.new _ _ _).alloc _).alloc _
  have b1 : Blk W0 (w.heap.size + 1) 27 (iv L).toArray := by rw [← hW0]; exact (Blk.new1 _ _ _ _).alloc _
  have b2 : Blk W0 (w.heap.size + 2) 37 shZero.toArray := by rw [← hW0]; exact Blk.new2 _ _ _ _ _
  have K0 : Keep [] w W0 := by rw [← hW0]; exact (((Keep.refl _ w).alloc _).alloc _).alloc _
  have hsz : W0.heap.size = w.heap.size + 3 := by rw [← hW0]; simp
  have c3 : W0.cell? ⟨w.heap.size, 3, none⟩ = some (.slice v.ea x.edges.length v.ec) := by rw [b0.cell]; rfl
  have HW : Hid (((w.alloc (.cells (imgCells v x).toArray 26)).alloc (.cells (iv L).toArray 27)).alloc (.cells #[.int .i64 0, .slice none 0 0, .slice none 0 0, .slice none 0 0, .int .u32 0, .int .u32 0, .int .u32 0, .int .i64 0, .int .i64 0, .int .i64 0, .int .i64 0, .int .i64 0, .int .i64 0, .int .i64 0, .int .i64 0, .int .i64 0, .int .i64 0, .int .i64 0, .int .i64 0, .int .i64 0, .int .i64 0, .int .i64 0, .int .i64 0, .int .i64 0, .int .i64 0, .int .i64 0, .int .i64 0, .int .i64 0, .int .i64 0, .int .i64 0, .int .i64 0] 37) = W0) := hW0
  have hco := clsE_ok x k h.ok
  have HE := Lib.hid (clsEdge_any v x k W0 (h.keep0 K0) hk)
  have HBo := fun w => Lib.hid (both_any (clsE x k) w hco)
  have HCe := fun w' hk' => Lib.hid (ceilOf_any v x (clsE x k).both w' (hTb.keep0 (K0.then hk')) (h.keep0 (K0.then hk')) hco.both)
  have HTE : Hid (ceilOf x.tasks (clsE x k).both = tabE x k) := rfl
  have HBU := fun w => Lib.hid (run_build_shift v x (clsE x k) (tabE_len x k) hL w)
  have HSL : Hid ((shCells v x (clsE x k) (tabE x k) L).length = 31) := shCells_len v x _ (tabE_len x k) hL
  have HSO : Hid (∀ u ∈ shCells v x (clsE x k) (tabE x k) L, u.oneCell' = true) := shCells_one v x _ _ _
  have HIL : Hid ((imgCells v x).length = 4) := show _ = _ from rfl
  have HLL : Hid ((iv L).length = 16) := show _ = _ by rw [iv_len, hL]
  have p0 : (0 : Int) ≤ (k : Int) := by omega
  have p1 : (k : Int) < (x.edges.length : Int) := by omega
  rw [HTE.out] at HCe
  have hci : CellsAt W0 w.heap.size 0 (imgCells v x) := b0.cellsAt
  have HCI := Lib.hid hci
  have HCL := Lib.hid b1.cellsAt
  have B2 := Lib.hid b2
  clear hW0 h b0 b1 b2 hTb hci
  generalize shCells v x (clsE x k) (tabE x k) L = sc at *
  generalize imgCells v x = il at *
  generalize iv L = lc at *
  generalize tabE x k = tb at *
  generalize clsE x k = ce at *
  go_enter Tryd.func11, Tryd.ntmps11
  go_wp2_with (first
    | rw [HW.out]
    | (refine wpList_load_agg rfl 26 (.tmp 3) rfl rfl (cs := il) (by rw [HIL.out]; exact agg_image) HCI.out ?_)
    | (refine HE.out.mono ?_; rintro e w3 ⟨rfl, k3⟩; have HK3 := Lib.hid k3; clear k3)
    | (refine stop_store 33 (.tmp 8) (.tmp 21) rfl ?_))
  constructor
  refine wpList_store_all rfl 33 (.tmp 8) (.tmp 21) rfl rfl rfl (vs := clsCells ce) (by kernel_rfl) (Blk.new _ _ _) (by simp [clsCells, Value.oneCell']) rfl ?_
  intro w4 d4 k4
  have K34 : Keep [] w3 w4 := ((Keep.refl [] w3).alloc _).trans k4 (fun y hy hlt => by simp at hy; omega)
  have K4 : Keep [] W0 w4 := HK3.out.then K34
  have hz4 := K4.size
  have hci4 : ∀ w', Keep [] w4 w' → CellsAt w' w.heap.size 0 il := fun w' hk' => HCI.out.keep0 (K4.then hk') (by omega)
  have hcl4 : ∀ w', Keep [] w4 w' → CellsAt w' (w.heap.size + 1) 0 lc := fun w' hk' => HCL.out.keep0 (K4.then hk') (by omega)
  have hcc4 : ∀ w', Keep [] w4 w' → CellsAt w' w3.heap.size 0 (clsCells ce) := fun w' hk' => (d4.keep0 hk').cellsAt
  have HK4 := Lib.hid K4
  clear K34 k4 d4 K4 hz4
  go_wp2
  refine wp_region_flow_tail 8 (Keep [] w4) rfl (by kernel_rfl) (Keep.refl _ _).drew ?_
  refine fl_agg 26 (.tmp 3) il rfl rfl rfl (by rw [HIL.out]; exact agg_image) hci4 ?_
  simp only [Act.put, List.setIfInBounds_toArray, List.set_cons_zero, List.set_cons_succ]
  refine fl_agg 33 (.tmp 8) (clsCells ce) rfl rfl rfl agg_cls hcc4 ?_
  simp only [Act.put, List.setIfInBounds_toArray, List.set_cons_zero, List.set_cons_succ]
  refine fl_agg 26 (.tmp 3) il rfl rfl rfl (by rw [HIL.out]; exact agg_image) hci4 ?_
  simp only [Act.put, List.setIfInBounds_toArray, List.set_cons_zero, List.set_cons_succ]
  refine fl_agg 33 (.tmp 8) (clsCells ce) rfl rfl rfl agg_cls hcc4 ?_
  simp only [Act.put, List.setIfInBounds_toArray, List.set_cons_zero, List.set_cons_succ]
  refine fl_call (f := 38) (v := .int .u32 (ce.both : Int)) (by rfl) rfl (by simp only [List.map_toArray, List.map_cons, List.map_nil]; rfl) Tryd.func38 (by kernel_rfl) (by kernel_rfl) (fun w' hS => ((HBo w').out.mono (fun e w'' h => ⟨h.1, hS.then h.2⟩))) ?_; simp only [Act.put, List.setIfInBounds_toArray, List.set_cons_zero, List.set_cons_succ]
  refine fl_call (f := 37) (v := .agg (iv tb).toArray) (by rfl) rfl (by simp only [List.map_toArray, List.map_cons, List.map_nil]; rfl) Tryd.func37 (by kernel_rfl) (by kernel_rfl) (fun w' hS => ((HCe w' (HK4.out.then hS)).out.mono (fun e w'' h => ⟨h.1, hS.then h.2⟩))) ?_; simp only [Act.put, List.setIfInBounds_toArray, List.set_cons_zero, List.set_cons_succ]
  refine fl_agg 27 (.tmp 5) lc rfl rfl rfl (by rw [HLL.out]; exact agg_offs) hcl4 ?_
  simp only [Act.put, List.setIfInBounds_toArray, List.set_cons_zero, List.set_cons_succ]
  refine fl_val (v := .agg sc.toArray) (by rfl) (fun w' _ => by have hb := (HBU w').out; simp only [execOp, Sem.run_bind, List.map_toArray, List.map_cons, List.map_nil]; change Result.andThen ((Instr.build 37 #[(0, .agg il.toArray), (1, .agg (clsCells ce).toArray), (2, .agg (iv tb).toArray), (3, .agg lc.toArray)]).run Tryd.prog w') _ = _; rw [hb]; rfl) ?_
  simp only [Act.put, List.setIfInBounds_toArray, List.set_cons_zero, List.set_cons_succ]
  refine fl_nil ?_
  intro w5 hS
  have hsz := hsz
  refine wpList_store_all rfl 37 (.tmp 6) (.tmp 29) rfl rfl rfl (vs := sc) (by rw [HSL.out]; exact agg_shift.2) (B2.out.keep0 (HK4.out.then hS)) HSO.out (by rw [HSL.out]; rfl) ?_
  intro w6 d6 k6
  have K6 : Keep [] w w6 := (K0.then (HK4.out.then hS)).trans k6 (fun y hy hlt => by simp at hy; omega)
  go_wp2
  refine bodyPost_ret (results_cell_tmp rfl _ rfl rfl d6 (by rw [HSL.out]; exact agg_shift)) rfl ?_
  exact ⟨rfl, K6⟩
end Go.Proofs.YtggjhjbcdnffnaaDoor
