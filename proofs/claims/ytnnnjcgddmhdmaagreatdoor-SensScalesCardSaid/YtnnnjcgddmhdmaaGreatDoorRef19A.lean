/- The document on changes (layer 19): the tasks of an edge's modes, offsets, times behind. Condition: small numbers. The document on changes (layer 19): a task's window. Condition: small numbers. -/
import Derived.Test.YtnnnjcgddmhdmaaGreatDoorWinF
import Derived.Test.YtnnnjcgddmhdmaaGreatDoorRef18
namespace Go.Proofs.YtnnnjcgddmhdmaaGreatDoor
open Go.RowKit

/-- An edge of an image, and the sets of its modes. -/
structure EdgeIn (x : Img) (k f t : Nat) : Prop where
  lt : k < x.edges.length
  ex : ∃ a b, ∃ (ha : a < x.modes.length) (hb : b < x.modes.length), x.edges[k].frm = (a : Int) ∧ x.edges[k].to = (b : Int) ∧ x.modes[a].set = f ∧ x.modes[b].set = t
theorem EdgeIn.f_lt {x : Img} {k f t : Nat} (h : EdgeIn x k f t) (hx : x.Ok) : f < 4294967296 := by
  obtain ⟨a, b, ha, hb, _, _, rfl, _⟩ := h.ex
  exact hx.set _ (List.getElem_mem ha)
theorem EdgeIn.t_lt {x : Img} {k f t : Nat} (h : EdgeIn x k f t) (hx : x.Ok) : t < 4294967296 := by
  obtain ⟨a, b, ha, hb, _, _, _, rfl⟩ := h.ex
  exact hx.set _ (List.getElem_mem hb)
theorem agg_edge23 : AggOf Tryz.prog 50 23 := ⟨by kernel_rfl, by kernel_rfl⟩
set_option maxRecDepth 100000 in
set_option maxHeartbeats 1000000 in
theorem sets_any (v : ImgV) (x : Img) (k f t : Nat) (w : World) (h : ImgAt w v x) (he : EdgeIn x k f t) :
    Calls Tryz.prog 36 #[.agg (imgCells v x).toArray, .int .i64 (k : Int)] w fun e w' => e = .returned (.tuple #[.int .u32 (f : Int), .int .u32 (t : Int)]) ∧ Keep [] w w' := by
  have hl := h.le
  have hlm := h.lm
  unfold maxLen at hl hlm
  have hk := he.lt
  obtain ⟨a, c, ha, hc, e0, e1, e2, e3⟩ := he.ex
  obtain ⟨W0, hW0⟩ : ∃ W0, w.alloc (.cells (imgCells v x).toArray 26) = W0 := ⟨_, rfl⟩
  have b0 : Blk W0 w.heap.size 26 (imgCells v x).toArray := by rw [← hW0]; exact img_box w v x
  have K0 : Keep [] w W0 := by rw [← hW0]; exact (Keep.refl [] w).alloc _
  have c3 : W0.cell? ⟨w.heap.size, 3, none⟩ = some (.slice v.ea x.edges.length v.ec) := by rw [b0.cell]; rfl
  have c2 : W0.cell? ⟨w.heap.size, 2, none⟩ = some (.slice v.ma x.modes.length v.mc) := by rw [b0.cell]; rfl
  obtain ⟨b, o, hA, hbw, hcs⟩ := h.edge (by omega)
  obtain ⟨bm, om, hM, hbm, hcm⟩ := h.mode (by omega)
  have hct := Lib.hid ((hcs k hk).keep0 K0 hbw)
  obtain ⟨_, _, hm1, _⟩ := hcm a ha
  obtain ⟨_, _, hm2, _⟩ := hcm c hc
  have m1 := (hm1.keep0 K0 hbm) 0 _ rfl
  have m2 := (hm2.keep0 K0 hbm) 0 _ rfl
  rw [e2, Nat.add_zero] at m1
  rw [e3, Nat.add_zero] at m2
  rw [hA] at c3
  rw [hM] at c2
  have hbm0 := Nat.lt_of_lt_of_le hbm K0.size
  have HEL : Hid ((edgCells x.edges[k]).length = 23) := edgCells_len (h.ok.offs _ (List.getElem_mem hk)) (h.ok.mp _ (List.getElem_mem hk))
  have HEO : Hid (∀ u ∈ edgCells x.edges[k], u.oneCell' = true) := iv_one _
  have g0 : (edgCells x.edges[k])[0]? = some (.int .i64 (a : Int)) := by rw [← e0]; rfl
  have g1 : (edgCells x.edges[k])[1]? = some (.int .i64 (c : Int)) := by rw [← e1]; rfl
  have p0 : (0 : Int) ≤ (k : Int) := by omega
  have p1 : (k : Int) < (x.edges.length : Int) := by omega
  have p2 : (0 : Int) ≤ (a : Int) := by omega
  have p3 : (a : Int) < (x.modes.length : Int) := by omega
  have p4 : (0 : Int) ≤ (c : Int) := by omega
  have p5 : (c : Int) < (x.modes.length : Int) := by omega
  have G0 := Lib.hid g0
  have G1 := Lib.hid g1
  have B0 := Lib.hid b0
  have HW := Lib.hid hW0
  clear hcs hcm hm1 hm2 e0 e1 e2 e3 h g0 g1 b0 hW0 he
  generalize edgCells x.edges[k] = ec at *
  generalize imgCells v x = il at *
  go_enter Tryz.func36, Tryz.ntmps36
  go_wp2_with (first
    | rw [HW.out]
    | (refine wpList_load_agg rfl 50 (.tmp 10) rfl rfl (cs := ec) (by rw [HEL.out]; exact agg_edge23) hct.out ?_)
    | (refine stop_store 50 (.tmp 6) (.tmp 11) rfl ?_))
  constructor
  refine wpList_store_all rfl 50 (.tmp 6) (.tmp 11) rfl rfl rfl (vs := ec) (by rw [HEL.out]; exact agg_edge23.2) (Blk.new _ _ _) HEO.out ?_ ?_
  · rw [HEL.out]; rfl
  intro w2 d2 k2
  have K2 : Keep [] W0 w2 := ((Keep.refl [] W0).alloc _).trans k2 (fun y hy hlt => by simp at hy; omega)
  have HF : ∀ w', Keep [] w2 w' → w'.cell? ⟨w.heap.size, 2, none⟩ = some (.slice (some ⟨bm, om, none⟩) x.modes.length v.mc) ∧ w'.cell? ⟨W0.heap.size, 0, none⟩ = some (.int .i64 (a : Int)) ∧ w'.cell? ⟨W0.heap.size, 1, none⟩ = some (.int .i64 (c : Int)) ∧
      w'.cell? ⟨bm, om + a * 2, none⟩ = some (.int .u32 (f : Int)) ∧ w'.cell? ⟨bm, om + c * 2, none⟩ = some (.int .u32 (t : Int)) := fun w' hk' =>
    ⟨((K2.then hk').cell (p := ⟨w.heap.size, 2, none⟩) B0.out.lt (by simp)).trans c2, (d2.keep0 hk').at_ G0.out, (d2.keep0 hk').at_ G1.out, ((K2.then hk').cell (p := ⟨bm, om + a * 2, none⟩) hbm0 (by simp)).trans m1, ((K2.then hk').cell (p := ⟨bm, om + c * 2, none⟩) hbm0 (by simp)).trans m2⟩
  have KW := Lib.hid (K0.then K2)
  clear k2 K2 d2
  go_wp2
  refine wp_region_flow (Keep [] w2) rfl (by kernel_rfl) (Keep.refl _ _).drew ?_
  repeat (refine fl_val (v := ?_) (by rfl) ?_ ?_; rotate_left; (intro w' hS; obtain ⟨f1,f2,f3,f4,f5⟩ := HF w' hS; go_simp; with_reducible rfl); simp only [Act.put, List.setIfInBounds_toArray, List.set_cons_zero, List.set_cons_succ])
  refine fl_nil ?_
  intro w4 hS
  have HS := Lib.hid hS
  clear hS HF
  go_wp2
  go_ret2
  exact ⟨rfl, KW.out.then HS.out⟩
set_option maxRecDepth 100000 in
set_option maxHeartbeats 1000000 in
theorem roff_any (v : ImgV) (x : Img) (k f t : Nat) (L : List Int) (i : Nat) (w : World) (h : ImgAt w v x) (he : EdgeIn x k f t) (hL : L.length = 16) (hi : i < 16) :
    Calls Tryz.prog 61 #[.agg (imgCells v x).toArray, .int .i64 (k : Int), .agg (iv L).toArray, .int .i64 (i : Int)] w fun e w' => e = .returned (.int .i64 (offR f t L (i : Int))) ∧ Keep [] w w' := by
  obtain ⟨W0, hW0⟩ : ∃ W0, (w.alloc (.cells (imgCells v x).toArray 26)).alloc (.cells (iv L).toArray 47) = W0 := ⟨_, rfl⟩
  have b0 : Blk W0 w.heap.size 26 (imgCells v x).toArray := by rw [← hW0]; exact (img_box w v x).alloc _
  have b1 : Blk W0 (w.heap.size + 1) 47 (iv L).toArray := by rw [← hW0]; exact Blk.new1 _ _ _ _
  have K0 : Keep [] w W0 := by rw [← hW0]; exact ((Keep.refl [] w).alloc _).alloc _
  have HSe := Lib.hid (sets_any v x k f t W0 (h.keep0 K0) he)
  have HC0 := Lib.hid b0.cellsAt
  have HIC : Hid ((imgCells v x).length = 4) := show _ = _ from rfl
  have hft := he.t_lt h.ok
  have hff := he.f_lt h.ok
  have HT := fun w => Lib.hid (has10_any t (i : Int) w hft)
  have HF := fun w => Lib.hid (has10_any f (i : Int) w hff)
  have HO : Hid (offR f t L (i : Int) = if has10 t (i : Int) = true ∧ has10 f (i : Int) = false then L.getD i 0 else 0) := show _ = _ from rfl
  have hgl : (iv L)[i]? = some (.int .i64 (L.getD i 0)) := by
    unfold iv
    rw [List.getElem?_map, List.getD_eq_getElem?_getD, List.getElem?_eq_getElem (show i < L.length by omega)]; rfl
  have hcl : ∀ w', Keep [] W0 w' → w'.cell? ⟨w.heap.size + 1, i, none⟩ = some (.int .i64 (L.getD i 0)) := fun w' hk => (b1.keep0 hk).at_ hgl
  have p0 : (0 : Int) ≤ (i : Int) := by omega
  have p1 : (i : Int) < 16 := by omega
  have HW := Lib.hid hW0
  clear hW0 b0 b1 hgl h he hL
  generalize imgCells v x = il at *
  generalize (iv L).toArray = lc at *
  cases ht : has10 t (i : Int) with
  | false =>
    rw [ht] at HT
    have HX : Hid (offR f t L (i : Int) = 0) := by show _ = _; rw [HO.out, ht]; rfl
    go_enter Tryz.func61, Tryz.ntmps61
    go_wp2_with (first
      | rw [HW.out]
      | (refine wpList_load_agg rfl 26 (.tmp 4) rfl rfl (cs := il) (by rw [HIC.out]; exact agg_image) HC0.out ?_)
      | (refine HSe.out.mono ?_; rintro e w2 ⟨rfl, k2⟩)
      | (refine (HT _).out.mono ?_; rintro e w3 ⟨rfl, rfl⟩))
    go_ret
    exact ⟨by rw [HX.out]; rfl, K0.then k2⟩
  | true =>
    rw [ht] at HT
    cases hf : has10 f (i : Int) with
    | true =>
      rw [hf] at HF
      have HX : Hid (offR f t L (i : Int) = 0) := by show _ = _; rw [HO.out, ht, hf]; rfl
      go_enter Tryz.func61, Tryz.ntmps61
      go_wp2_with (first
        | rw [HW.out]
        | (refine wpList_load_agg rfl 26 (.tmp 4) rfl rfl (cs := il) (by rw [HIC.out]; exact agg_image) HC0.out ?_)
        | (refine HSe.out.mono ?_; rintro e w2 ⟨rfl, k2⟩)
        | (refine (HT _).out.mono ?_; rintro e w3 ⟨rfl, rfl⟩; clear HT)
        | (refine (HF _).out.mono ?_; rintro e w3 ⟨rfl, rfl⟩))
      go_ret
      exact ⟨by rw [HX.out]; rfl, K0.then k2⟩
    | false =>
      rw [hf] at HF
      have HX : Hid (offR f t L (i : Int) = L.getD i 0) := by show _ = _; rw [HO.out, ht, hf]; rfl
      generalize L.getD i 0 = z at *
      go_enter Tryz.func61, Tryz.ntmps61
      go_wp2_with (first
        | rw [HW.out]
        | (refine wpList_load_agg rfl 26 (.tmp 4) rfl rfl (cs := il) (by rw [HIC.out]; exact agg_image) HC0.out ?_)
        | (refine HSe.out.mono ?_; rintro e w2 ⟨rfl, k2⟩; have hz := hcl w2 k2)
        | (refine (HT _).out.mono ?_; rintro e w3 ⟨rfl, rfl⟩; clear HT)
        | (refine (HF _).out.mono ?_; rintro e w3 ⟨rfl, rfl⟩))
      go_ret
      exact ⟨by rw [HX.out]; rfl, K0.then k2⟩
set_option maxRecDepth 100000 in
theorem greater_any (a b : Int) (w : World) : Calls Tryz.prog 38 #[.int .i64 a, .int .i64 b] w fun e w' => e = .returned (.int .i64 (greatM a b)) ∧ w = w' := by
  have HG : Hid (greatM a b = if a > b then a else b) := show _ = _ from rfl
  rcases Int.lt_or_le b a with h | h
  · have HX : Hid (greatM a b = a) := by show _ = _; rw [HG.out, if_pos h]
    go_enter Tryz.func38, Tryz.ntmps38
    go_wp2
    go_ret
    exact ⟨by rw [HX.out]; rfl, rfl⟩
  · have HX : Hid (greatM a b = b) := by show _ = _; rw [HG.out, if_neg (by omega)]
    go_enter Tryz.func38, Tryz.ntmps38
    go_wp2
    go_ret
    exact ⟨by rw [HX.out]; rfl, rfl⟩
set_option maxRecDepth 100000 in
set_option maxHeartbeats 1000000 in
theorem rbeh_any (v : ImgV) (x : Img) (k f t : Nat) (i : Nat) (w : World) (h : ImgAt w v x) (he : EdgeIn x k f t) (hx : Small x) (hi : i < x.tasks.length) :
    Calls Tryz.prog 60 #[.agg (imgCells v x).toArray, .int .i64 (k : Int), .int .i64 (i : Int)] w fun e w' => e = .returned (numRes (behR x f t i)) ∧ Keep [] w w' := by
  have b0 := img_box w v x
  obtain ⟨W0, hW0⟩ : ∃ W0, w.alloc (.cells (imgCells v x).toArray 26) = W0 := ⟨_, rfl⟩
  rw [hW0] at b0
  have K0 : Keep [] w W0 := by rw [← hW0]; exact (Keep.refl [] w).alloc _
  have HSe := Lib.hid (sets_any v x k f t W0 (h.keep0 K0) he)
  have HC0 : ∀ w', Keep [] W0 w' → CellsAt w' w.heap.size 0 (imgCells v x) := fun w' hk => (b0.keep0 hk).cellsAt
  have HIC : Hid ((imgCells v x).length = 4) := show _ = _ from rfl
  have hft := he.t_lt h.ok
  have hff := he.f_lt h.ok
  have hor : f ||| t < 4294967296 := Nat.or_lt_two_pow (n := 32) hff hft
  have HT := fun w => Lib.hid (has10_any t (i : Int) w hft)
  have HRe := fun w' hk' => Lib.hid (rresp_any v x t (f ||| t) (f ||| t) i w' (h.keep0 (K0.then hk')) hft hor hor hx hi)
  have HB : Hid (behR x f t i = if has10 t (i : Int) = true then rrespM x t (f ||| t) (f ||| t) i else none) := show _ = _ from rfl
  have hor2 : bits .or .u32 (f : Int) (t : Int) = ((f ||| t : Nat) : Int) := u32_or_nat f t hff hft
  have HW := Lib.hid hW0
  clear hW0 b0 h he hx
  generalize imgCells v x = il at *
  cases ht : has10 t (i : Int) with
  | false =>
    rw [ht] at HT
    have HX : Hid (numRes (behR x f t i) = .tuple #[.int .i64 0, .bool false]) := by show _ = _; rw [HB.out, ht]; rfl
    go_enter Tryz.func60, Tryz.ntmps60
    go_wp2_with (first
      | rw [HW.out]
      | (refine wpList_load_agg rfl 26 (.tmp 3) rfl rfl (cs := il) (by rw [HIC.out]; exact agg_image) (HC0 _ (Keep.refl _ _)) ?_)
      | (refine HSe.out.mono ?_; rintro e w2 ⟨rfl, k2⟩)
      | (refine (HT _).out.mono ?_; rintro e w3 ⟨rfl, rfl⟩))
    go_ret2
    exact ⟨by rw [HX.out]; rfl, K0.then k2⟩
  | true =>
    rw [ht] at HT
    have HX : Hid (numRes (behR x f t i) = numRes (rrespM x t (f ||| t) (f ||| t) i)) := by show _ = _; rw [HB.out, ht]; rfl
    generalize rrespM x t (f ||| t) (f ||| t) i = rr at *
    rw [numRes_eq rr] at HX HRe
    go_enter Tryz.func60, Tryz.ntmps60
    go_wp2_with (first
      | rw [HW.out]
      | (refine wpList_load_agg rfl 26 (.tmp 3) rfl rfl (cs := il) (by rw [HIC.out]; exact agg_image) (HC0 _ (Keep.refl _ _)) ?_)
      | (refine HSe.out.mono ?_; rintro e w2 ⟨rfl, k2⟩; have HC2 := Lib.hid (HC0 w2 k2); clear HC0)
      | (refine (HT _).out.mono ?_; rintro e w3 ⟨rfl, rfl⟩)
      | refine stop_at 20 rfl ?_)
    constructor
    refine wpList_load_agg rfl 26 (.tmp 3) rfl rfl (cs := il) (by rw [HIC.out]; exact agg_image) HC2.out ?_
    go_wp2_with fail
    refine (HRe _ k2).out.mono ?_
    rintro e w5 ⟨rfl, k5⟩
    go_wp2
    go_ret2
    exact ⟨by rw [HX.out]; rfl, (K0.then k2).then k5⟩
end Go.Proofs.YtnnnjcgddmhdmaaGreatDoor

namespace Go.Proofs.YtnnnjcgddmhdmaaGreatDoor
open Go.RowKit

set_option maxRecDepth 100000 in
set_option maxHeartbeats 3000000 in
theorem rwin_any (v : ImgV) (x : Img) (k f t : Nat) (L : List Int) (i : Nat) (w : World) (h : ImgAt w v x) (he : EdgeIn x k f t) (hx : Small x) (hL : OffOk L) (hi : i < x.tasks.length) :
    Calls Tryz.prog 59 #[.agg (imgCells v x).toArray, .int .i64 (k : Int), .agg (iv L).toArray, .int .i64 (i : Int)] w fun e w' => e = .returned (numRes (winR x f t L i)) ∧ Keep [] w w' := by
  have hn := hx.n
  obtain ⟨W0, hW0⟩ : ∃ W0, (w.alloc (.cells (imgCells v x).toArray 26)).alloc (.cells (iv L).toArray 47) = W0 := ⟨_, rfl⟩
  have b0 : Blk W0 w.heap.size 26 (imgCells v x).toArray := by rw [← hW0]; exact (img_box w v x).alloc _
  have b1 : Blk W0 (w.heap.size + 1) 47 (iv L).toArray := by rw [← hW0]; exact Blk.new1 _ _ _ _
  have K0 : Keep [] w W0 := by rw [← hW0]; exact ((Keep.refl [] w).alloc _).alloc _
  have HSe := Lib.hid (sets_any v x k f t W0 (h.keep0 K0) he)
  have hft := he.t_lt h.ok
  have hff := he.f_lt h.ok
  have hor : f ||| t < 4294967296 := Nat.or_lt_two_pow (n := 32) hff hft
  have hor2 : bits .or .u32 (f : Int) (t : Int) = ((f ||| t : Nat) : Int) := u32_or_nat f t hff hft
  have HC0 : Hid (∀ w', Keep [] W0 w' → CellsAt w' w.heap.size 0 (imgCells v x)) := fun w' hk => (b0.keep0 hk).cellsAt
  have HC1 : Hid (∀ w', Keep [] W0 w' → CellsAt w' (w.heap.size + 1) 0 (iv L)) := fun w' hk => (b1.keep0 hk).cellsAt
  have HI1 : Hid (∀ w', Keep [] W0 w' → w'.cell? ⟨w.heap.size, 1, none⟩ = some (.slice v.ta x.tasks.length v.tc)) := fun w' hk => img_c1 (b0.keep0 hk)
  have HIC : Hid ((imgCells v x).length = 4) := show _ = _ from rfl
  have HOC : Hid ((iv L).length = 16) := by show _ = _; rw [iv_len]; exact hL.1
  have HH := fun (j : Int) w => Lib.hid (has10_any (f ||| t) j w hor)
  have HOf := fun (j : Nat) (hj : j < 16) w' hk' => Lib.hid (roff_any v x k f t L j w' (h.keep0 (K0.then hk')) he hL.1 hj)
  have HBl := fun w' hk' => Lib.hid (rblock_any v x (f ||| t) (f ||| t) i w' (h.keep0 (K0.then hk')) hor hor hi hx)
  have HWR : Hid (winR x f t L i = if has10 (f ||| t) (i : Int) = true then (match x.tasks[i]? with | some k => leastR (k.cost + rblock x.tasks (f ||| t) (f ||| t) i) (k.ded + offR f t L i) (allM (aheadR x.tasks f t L i)) | none => none) else none) := show _ = _ from rfl
  have HI := Lib.hid (h.keep0 K0)
  have hz0 : w.heap.size < W0.heap.size := b0.lt
  have hbb := rblockTo_le hx (f ||| t) (f ||| t) i 8
  change 0 ≤ rblock x.tasks (f ||| t) (f ||| t) i ∧ rblock x.tasks (f ||| t) (f ||| t) i ≤ 4096 * (8 : Nat) at hbb
  have hcost := hx.cost _ (List.getElem_mem hi)
  have hded := hx.ded _ (List.getElem_mem hi)
  have hoi := offW_le (c := clsOf f t) hL (i : Int)
  rw [offR_same hff hft] at hoi
  have htl := aheadR_le x.tasks f t L i
  have HNU := Lib.hid (show 0 ≤ rblock x.tasks (f ||| t) (f ||| t) i ∧ rblock x.tasks (f ||| t) (f ||| t) i ≤ 32768 ∧ x.tasks[i].cost ≤ 4096 ∧ 1 ≤ x.tasks[i].cost ∧ x.tasks[i].ded ≤ 65536 ∧ 0 ≤ x.tasks[i].ded ∧ 0 ≤ offR f t L (i : Int) ∧ offR f t L (i : Int) ≤ 16384 by omega)
  have HFL := fun A c w' hr => Lib.hid (rleast_any A c (aheadR x.tasks f t L i) (x.tasks[i].cost + rblock x.tasks (f ||| t) (f ||| t) i) (x.tasks[i].ded + offR f t L i) w' hr (by omega) (by omega))
  have HW := Lib.hid hW0
  have HN := Lib.hid hn
  clear hW0 b0 b1 h he hx hbb hcost hded hoi htl hff hft hL
  generalize imgCells v x = il at *
  generalize iv L = lc at *
  cases hb : has10 (f ||| t) (i : Int) with
  | false =>
    have HX : Hid (numRes (winR x f t L i) = .tuple #[.int .i64 0, .bool false]) := by show _ = _; rw [HWR.out, hb]; rfl
    have HHi := HH (i : Int)
    rw [hb] at HHi
    clear HH
    go_enter Tryz.func59, Tryz.ntmps59
    go_wp2_with (first
      | rw [HW.out]
      | (refine wpList_load_agg rfl 26 (.tmp 4) rfl rfl (cs := il) (by rw [HIC.out]; exact agg_image) (HC0.out _ (Keep.refl _ _)) ?_)
      | (refine HSe.out.mono ?_; rintro e w2 ⟨rfl, k2⟩)
      | (refine (HHi _).out.mono ?_; rintro e w3 ⟨rfl, rfl⟩))
    go_ret2
    exact ⟨by rw [HX.out]; rfl, K0.then k2⟩
  | true =>
    have HHi := HH (i : Int)
    rw [hb] at HHi
    have HX : Hid (numRes (winR x f t L i) = numRes (leastR (x.tasks[i].cost + rblock x.tasks (f ||| t) (f ||| t) i) (x.tasks[i].ded + offR f t L i) (allM (aheadR x.tasks f t L i)))) := by
      show _ = _
      rw [HWR.out, hb, if_pos rfl, List.getElem?_eq_getElem hi]
    clear HWR
    go_enter Tryz.func59, Tryz.ntmps59
    go_wp2_with (first
      | rw [HW.out]
      | (refine wpList_load_agg rfl 26 (.tmp 4) rfl rfl (cs := il) (by rw [HIC.out]; exact agg_image) (HC0.out _ (Keep.refl _ _)) ?_)
      | (refine HSe.out.mono ?_; rintro e w1 ⟨rfl, k1⟩)
      | (refine (HHi _).out.mono ?_; rintro e w3 ⟨rfl, rfl⟩))
    have K1 := Lib.hid (K0.then k1)
    have HK1 := Lib.hid k1
    have hz1 : w.heap.size ≤ w1.heap.size := K1.out.size
    clear k1 K0 HHi HSe
    go_loopw [13, 14] (fun o j wr => ∃ m : Nat, m ≤ i ∧ j = .int .i64 m ∧ wr.ownsRow w1.heap.size 113 4 o (aheadR x.tasks f t L m).length ((aheadR x.tasks f t L m).flatMap trmCells) ∧ Keep [] w1 wr) (fun _ j _ => i - (intOf j).toNat)
    case atStart => exact ⟨0, Nat.zero_le _, rfl, World.ownsRow_nil _ _ _ _, Keep.refl _ _⟩
    case round =>
      obtain ⟨m, hm, rfl, hrow, hK⟩ := hrel
      have c1 := HI1.out wr (HK1.out.then hK)
      have hkl := aheadR_le x.tasks f t L m
      have hn := HN.out
      by_cases hlt : m < i
      · have hmn : m < x.tasks.length := by omega
        obtain ⟨b, o, hA, hbw, hcs⟩ := HI.out.task (by omega)
        have hct := (hcs m hmn).keep0 (HK1.out.then hK) hbw
        have hp := hct 0 (.int .i64 x.tasks[m].per) rfl
        have hc := hct 2 (.int .i64 x.tasks[m].cost) rfl
        rw [Nat.add_zero] at hp
        rw [hA] at c1
        have p0 : (0 : Int) ≤ (m : Int) := by omega
        have p1 : (m : Int) < (x.tasks.length : Int) := by omega
        have p2 : decide ((m : Int) < (i : Int)) = true := by simp; omega
        have hHk := HH (m : Int)
        have hOk := HOf m (by omega)
        have HT : Hid (termR x.tasks f t L m = [⟨x.tasks[m].per, x.tasks[m].cost, offR f t L (m : Int), 0⟩]) := by show _ = _; unfold termR; rw [List.getElem?_eq_getElem hmn]
        have hst : Hid (aheadR x.tasks f t L (m + 1) = aheadR x.tasks f t L m ++ (if has10 (f ||| t) (m : Int) = true then termR x.tasks f t L m else [])) := rfl
        have HK := Lib.hid hK
        have HR := Lib.hid hrow
        clear hcs hct hK hrow
        generalize x.tasks[m].per = r1 at *
        generalize x.tasks[m].cost = r2 at *
        generalize offR f t L (m : Int) = r3 at *
        cases hb2 : has10 (f ||| t) (m : Int) with
        | false =>
          have HX2 : Hid (aheadR x.tasks f t L (m + 1) = aheadR x.tasks f t L m) := by show _ = _; rw [hst.out, hb2]; simp
          go_wp2_with fail
          refine (hHk _).out.mono ?_
          rintro e w' ⟨rfl, rfl⟩
          rw [hb2]
          go_wp2
          go_roundw
          case rel => exact ⟨m + 1, by omega, by go_num, by rw [HX2.out]; exact HR.out, HK.out⟩
          case measure => simp [intOf] <;> omega
        | true =>
          have HX2 : Hid (aheadR x.tasks f t L (m + 1) = aheadR x.tasks f t L m ++ [⟨r1, r2, r3, 0⟩]) := by show _ = _; rw [hst.out, hb2, if_pos rfl, HT.out]
          have hF : ∀ w', Keep [] wr w' → w'.cell? ⟨w.heap.size, 1, none⟩ = some (.slice (some ⟨b, o, none⟩) x.tasks.length v.tc) ∧ w'.cell? ⟨b, o + m * 11, none⟩ = some (.int .i64 r1) ∧ w'.cell? ⟨b, o + m * 11 + 2, none⟩ = some (.int .i64 r2) := fun w' hw =>
            ⟨(hw.cell (p := ⟨w.heap.size, 1, none⟩) (World.block_lt_of_cell? _ _ c1) (by simp)).trans c1, (hw.cell (p := ⟨b, o + m * 11, none⟩) (World.block_lt_of_cell? _ _ hp) (by simp)).trans hp, (hw.cell (p := ⟨b, o + m * 11 + 2, none⟩) (World.block_lt_of_cell? _ _ hc) (by simp)).trans hc⟩
          have hC0 : ∀ w', Keep [] wr w' → CellsAt w' w.heap.size 0 il := fun w' hw => HC0.out w' ((HK1.out.then HK.out).then hw)
          have hC1 : ∀ w', Keep [] wr w' → CellsAt w' (w.heap.size + 1) 0 lc := fun w' hw => HC1.out w' ((HK1.out.then HK.out).then hw)
          go_wp2_with fail
          refine (hHk _).out.mono ?_
          rintro e w' ⟨rfl, rfl⟩
          rw [hb2]
          go_wp2
          refine ap_begin 20 (Keep [] wr) rfl (Keep.refl _ _).drew (fun hS hPan => ?_) (fun _ _ d _ _ h => by cases d <;> exact h)
          (refine ap_val (v := ?_) 0 rfl (by kernel_rfl) (by kernel_rfl) (by kernel_rfl) (by kernel_rfl) (by rfl) hPan ?_ hS ?_; rotate_left; (intro w' hSw; obtain ⟨f1,f2,f3⟩ := hF w' hSw; go_simp; try with_reducible rfl); simp only [Act.put, List.setIfInBounds_toArray, List.set_cons_zero, List.set_cons_succ])
          (refine ap_val (v := ?_) 1 rfl (by kernel_rfl) (by kernel_rfl) (by kernel_rfl) (by kernel_rfl) (by rfl) hPan ?_ hS ?_; rotate_left; (intro w' hSw; obtain ⟨f1,f2,f3⟩ := hF w' hSw; go_simp; try with_reducible rfl); simp only [Act.put, List.setIfInBounds_toArray, List.set_cons_zero, List.set_cons_succ])
          (refine ap_val (v := ?_) 2 rfl (by kernel_rfl) (by kernel_rfl) (by kernel_rfl) (by kernel_rfl) (by rfl) hPan ?_ hS ?_; rotate_left; (intro w' hSw; obtain ⟨f1,f2,f3⟩ := hF w' hSw; go_simp; try with_reducible rfl); simp only [Act.put, List.setIfInBounds_toArray, List.set_cons_zero, List.set_cons_succ])
          (refine ap_val (v := ?_) 3 rfl (by kernel_rfl) (by kernel_rfl) (by kernel_rfl) (by kernel_rfl) (by rfl) hPan ?_ hS ?_; rotate_left; (intro w' hSw; obtain ⟨f1,f2,f3⟩ := hF w' hSw; go_simp; try with_reducible rfl); simp only [Act.put, List.setIfInBounds_toArray, List.set_cons_zero, List.set_cons_succ])
          (refine ap_val (v := ?_) 4 rfl (by kernel_rfl) (by kernel_rfl) (by kernel_rfl) (by kernel_rfl) (by rfl) hPan ?_ hS ?_; rotate_left; (intro w' hSw; obtain ⟨f1,f2,f3⟩ := hF w' hSw; go_simp; try with_reducible rfl); simp only [Act.put, List.setIfInBounds_toArray, List.set_cons_zero, List.set_cons_succ])
          (refine ap_val (v := ?_) 5 rfl (by kernel_rfl) (by kernel_rfl) (by kernel_rfl) (by kernel_rfl) (by rfl) hPan ?_ hS ?_; rotate_left; (intro w' hSw; obtain ⟨f1,f2,f3⟩ := hF w' hSw; go_simp; try with_reducible rfl); simp only [Act.put, List.setIfInBounds_toArray, List.set_cons_zero, List.set_cons_succ])
          (refine ap_val (v := ?_) 6 rfl (by kernel_rfl) (by kernel_rfl) (by kernel_rfl) (by kernel_rfl) (by rfl) hPan ?_ hS ?_; rotate_left; (intro w' hSw; obtain ⟨f1,f2,f3⟩ := hF w' hSw; go_simp; try with_reducible rfl); simp only [Act.put, List.setIfInBounds_toArray, List.set_cons_zero, List.set_cons_succ])
          (refine ap_val (v := ?_) 7 rfl (by kernel_rfl) (by kernel_rfl) (by kernel_rfl) (by kernel_rfl) (by rfl) hPan ?_ hS ?_; rotate_left; (intro w' hSw; obtain ⟨f1,f2,f3⟩ := hF w' hSw; go_simp; try with_reducible rfl); simp only [Act.put, List.setIfInBounds_toArray, List.set_cons_zero, List.set_cons_succ])
          (refine ap_val (v := ?_) 8 rfl (by kernel_rfl) (by kernel_rfl) (by kernel_rfl) (by kernel_rfl) (by rfl) hPan ?_ hS ?_; rotate_left; (intro w' hSw; obtain ⟨f1,f2,f3⟩ := hF w' hSw; go_simp; try with_reducible rfl); simp only [Act.put, List.setIfInBounds_toArray, List.set_cons_zero, List.set_cons_succ])
          (refine ap_val (v := ?_) 9 rfl (by kernel_rfl) (by kernel_rfl) (by kernel_rfl) (by kernel_rfl) (by rfl) hPan ?_ hS ?_; rotate_left; (intro w' hSw; obtain ⟨f1,f2,f3⟩ := hF w' hSw; go_simp; try with_reducible rfl); simp only [Act.put, List.setIfInBounds_toArray, List.set_cons_zero, List.set_cons_succ])
          (refine ap_val (v := ?_) 10 rfl (by kernel_rfl) (by kernel_rfl) (by kernel_rfl) (by kernel_rfl) (by rfl) hPan ?_ hS ?_; rotate_left; (intro w' hSw; obtain ⟨f1,f2,f3⟩ := hF w' hSw; go_simp; try with_reducible rfl); simp only [Act.put, List.setIfInBounds_toArray, List.set_cons_zero, List.set_cons_succ])
          (refine ap_val (v := ?_) 11 rfl (by kernel_rfl) (by kernel_rfl) (by kernel_rfl) (by kernel_rfl) (by rfl) hPan ?_ hS ?_; rotate_left; (intro w' hSw; obtain ⟨f1,f2,f3⟩ := hF w' hSw; go_simp; try with_reducible rfl); simp only [Act.put, List.setIfInBounds_toArray, List.set_cons_zero, List.set_cons_succ])
          (refine ap_val (v := ?_) 12 rfl (by kernel_rfl) (by kernel_rfl) (by kernel_rfl) (by kernel_rfl) (by rfl) hPan ?_ hS ?_; rotate_left; (intro w' hSw; obtain ⟨f1,f2,f3⟩ := hF w' hSw; go_simp; try with_reducible rfl); simp only [Act.put, List.setIfInBounds_toArray, List.set_cons_zero, List.set_cons_succ])
          refine ap_agg 13 26 (.tmp 4) il rfl (by kernel_rfl) (by kernel_rfl) (by kernel_rfl) (by kernel_rfl) (by rfl) hPan rfl rfl (by rw [HIC.out]; exact agg_image) hC0 hS ?_
          (simp only [Act.put, List.setIfInBounds_toArray, List.set_cons_zero, List.set_cons_succ])
          (refine ap_val (v := ?_) 14 rfl (by kernel_rfl) (by kernel_rfl) (by kernel_rfl) (by kernel_rfl) (by rfl) hPan ?_ hS ?_; rotate_left; (intro w' hSw; obtain ⟨f1,f2,f3⟩ := hF w' hSw; go_simp; try with_reducible rfl); simp only [Act.put, List.setIfInBounds_toArray, List.set_cons_zero, List.set_cons_succ])
          refine ap_agg 15 47 (.tmp 6) lc rfl (by kernel_rfl) (by kernel_rfl) (by kernel_rfl) (by kernel_rfl) (by rfl) hPan rfl rfl (by rw [HOC.out]; exact agg_offs) hC1 hS ?_
          (simp only [Act.put, List.setIfInBounds_toArray, List.set_cons_zero, List.set_cons_succ])
          (refine ap_val (v := ?_) 16 rfl (by kernel_rfl) (by kernel_rfl) (by kernel_rfl) (by kernel_rfl) (by rfl) hPan ?_ hS ?_; rotate_left; (intro w' hSw; obtain ⟨f1,f2,f3⟩ := hF w' hSw; go_simp; try with_reducible rfl); simp only [Act.put, List.setIfInBounds_toArray, List.set_cons_zero, List.set_cons_succ])
          refine ap_one 17 (by kernel_rfl) ?_
          refine op_call (f := 61) (vs := #[.agg il.toArray, .int .i64 (k : Int), .agg lc.toArray, .int .i64 (m : Int)]) 17 rfl (by rfl) rfl (by simp only [List.map_toArray, List.map_cons, List.map_nil]; rfl) Tryz.func61 (by kernel_rfl) (by kernel_rfl) (hOk _ ((HK1.out.then HK.out).then hS)).out ?_
          rintro e w5 ⟨rfl, k5⟩
          have hS5 := hS.then k5
          refine ⟨_, rfl, fun _ => hS5, ?_⟩
          clear k5 hS
          have hS := hS5
          clear hS5
          (simp only [Act.put, List.setIfInBounds_toArray, List.set_cons_zero, List.set_cons_succ])
          (refine ap_val (v := ?_) 18 rfl (by kernel_rfl) (by kernel_rfl) (by kernel_rfl) (by kernel_rfl) (by rfl) hPan ?_ hS ?_; rotate_left; (intro w' hSw; obtain ⟨f1,f2,f3⟩ := hF w' hSw; go_simp; try with_reducible rfl); simp only [Act.put, List.setIfInBounds_toArray, List.set_cons_zero, List.set_cons_succ])
          refine ap_one 19 (by kernel_rfl) ?_
          refine op_run (v := .slice (some ⟨w5.heap.size, 0, none⟩) 1 1) (w' := w5.alloc (.cells #[.int .i64 r1, .int .i64 r2, .int .i64 r3, .int .i64 0] 113)) 19 rfl (by rfl) (by go_simp) ?_
          have K3 : Keep [] wr (w5.alloc (.cells #[.int .i64 r1, .int .i64 r2, .int .i64 r3, .int .i64 0] 113)) := hS.alloc _
          refine ⟨fun _ => K3, ?_⟩
          have r3' := own_keep0 HR.out hS
          have hB3 : w1.heap.size ≤ w5.heap.size := by have h1 := HK.out.size; have h2 := hS.size; omega
          have d3 := Blk.cellsAt (vs := [.int .i64 r1, .int .i64 r2, .int .i64 r3, .int .i64 0]) (Blk.new w5 113 _)
          have r4 := own_keep0 HR.out K3
          clear hF hS
          generalize hw3 : w5.alloc (.cells #[.int .i64 r1, .int .i64 r2, .int .i64 r3, .int .i64 0] 113) = w3 at *
          have hB4 : w1.heap.size ≤ w3.heap.size := by have h1 := HK.out.size; have h2 := K3.size; omega
          clear hw3
          (simp only [Act.put, List.setIfInBounds_toArray, List.set_cons_zero, List.set_cons_succ])
          refine ap_one 20 (by kernel_rfl) ?_
          refine op_app 20 1 (.tmp 37) (.tmp 56) 110 rfl (by rfl) rfl slice_rtrm r4 rfl rfl d3 rfl (by intro u hu; simp at hu; rcases hu with rfl | rfl | rfl | rfl <;> rfl) hB4 (by omega) (by unfold maxLen; omega) ?_
          intro v' w4 o4 k4 _
          refine ⟨fun h => (by cases h), ?_⟩
          have hlt' := fun x hx => (r4.lt x (by simpa using hx)).1
          have K4 : Keep [] w1 w4 := (HK.out.then K3).trans k4 (fun y hy hlt => by have := hlt' y (by simpa using hy); omega)
          (simp only [Act.put, List.setIfInBounds_toArray, List.set_cons_zero, List.set_cons_succ])
          refine ap_one 21 (by kernel_rfl) ?_
          refine op_run (v := v') (w' := w4) 21 rfl (by rfl) (by go_simp) ?_
          refine ⟨fun h => (by cases h), ap_done (by kernel_rfl) ?_ _⟩
          (simp only [Act.put, List.setIfInBounds_toArray, List.set_cons_zero, List.set_cons_succ])
          have O4 : Hid (w4.ownsRow w1.heap.size 113 4 v' (aheadR x.tasks f t L (m + 1)).length ((aheadR x.tasks f t L (m + 1)).flatMap trmCells)) := by
            show World.ownsRow _ _ _ _ _ _ _
            rw [HX2.out, List.length_append, List.flatMap_append]
            exact o4
          have HK4 := Lib.hid K4
          clear hPan r3' r4 d3 o4 k4 K4 K3 hlt'
          go_wp2
          go_roundw
          case rel => exact ⟨m + 1, by omega, by go_num, O4.out, HK4.out⟩
          case measure => simp [intOf] <;> omega
      · obtain rfl : m = i := by omega
        obtain ⟨A, cc, rfl⟩ := own_shape hrow
        obtain ⟨b, o, hA, hbw, hcs⟩ := HI.out.task (by omega)
        have hl8 := HI.out.ok.lon _ (List.getElem_mem hi)
        have HTL : Hid ((tskCells x.tasks[m]).length = 11) := tskCells_len hl8
        have HCC := Lib.hid ((hcs m hi).keep0 (HK1.out.then hK) hbw)
        have HG := Lib.hid (show (tskCells x.tasks[m])[1]? = some (.int .i64 x.tasks[m].ded) ∧ (tskCells x.tasks[m])[2]? = some (.int .i64 x.tasks[m].cost) from ⟨rfl, rfl⟩)
        have hone : Hid (∀ u ∈ tskCells x.tasks[m], u.oneCell' = true) := iv_one (tskInts x.tasks[m])
        have p0 : (0 : Int) ≤ (m : Int) := by omega
        have p1 : (m : Int) < (x.tasks.length : Int) := by omega
        have p2 : decide ((m : Int) < (m : Int)) = false := by simp
        rw [hA] at c1
        have HK := Lib.hid hK
        have HRd := Lib.hid (Reads.of_own hrow)
        have hOk := HOf m (by omega)
        clear hcs hrow hK HOf
        generalize tskCells x.tasks[m] = tc2 at *
        generalize x.tasks[m].cost = tco at *
        generalize x.tasks[m].ded = tde at *
        generalize rblock x.tasks (f ||| t) (f ||| t) m = bm at *
        generalize offR f t L (m : Int) = om at *
        generalize aheadR x.tasks f t L m = ts at *
        go_wp2_with (first
          | (refine wpList_load_agg rfl 33 (.tmp 61) rfl rfl (cs := tc2) (by rw [HTL.out]; exact agg_task) HCC.out ?_)
          | (refine stop_store 33 (.tmp 15) (.tmp 62) rfl ?_))
        constructor
        refine wpList_store_all rfl 33 (.tmp 15) (.tmp 62) rfl rfl rfl (vs := tc2) (by rw [HTL.out]; exact agg_task.2) (Blk.new _ _ _) hone.out ?_ ?_
        · rw [HTL.out]; rfl
        intro w2 d2 k2
        have K2 : Keep [] wr w2 := ((Keep.refl [] wr).alloc _).trans k2 (fun y hy hlt => by simp at hy; omega)
        have KW2 := Lib.hid (HK1.out.then (HK.out.then K2))
        have HRd2 := Lib.hid (HRd.out.keep0 K2)
        have KF := Lib.hid (K1.out.then (HK.out.then K2))
        have hC0 : ∀ w', Keep [] w2 w' → CellsAt w' w.heap.size 0 il := fun w' hw => HC0.out w' (KW2.out.then hw)
        have hC1 : ∀ w', Keep [] w2 w' → CellsAt w' (w.heap.size + 1) 0 lc := fun w' hw => HC1.out w' (KW2.out.then hw)
        have hF : ∀ w', Keep [] w2 w' → w'.cell? ⟨wr.heap.size, 1, none⟩ = some (.int .i64 tde) ∧ w'.cell? ⟨wr.heap.size, 2, none⟩ = some (.int .i64 tco) := fun w' hw =>
          ⟨(d2.keep0 hw).at_ HG.out.1, (d2.keep0 hw).at_ HG.out.2⟩
        obtain ⟨n1, n2, n3, n4, n5, n6, n7, n8⟩ := HNU.out
        clear k2 K2
        go_wp2
        refine ap_begin 21 (Keep [] w2) rfl (Keep.refl _ _).drew (fun hS hPan => ?_) (fun _ _ d _ _ h => by cases d <;> exact h)
        (refine ap_val (v := ?_) 0 rfl (by kernel_rfl) (by kernel_rfl) (by kernel_rfl) (by kernel_rfl) (by rfl) hPan ?_ hS ?_; rotate_left; (intro w' hSw; obtain ⟨f1,f2⟩ := hF w' hSw; go_simp; try with_reducible rfl); simp only [Act.put, List.setIfInBounds_toArray, List.set_cons_zero, List.set_cons_succ])
        (refine ap_val (v := ?_) 1 rfl (by kernel_rfl) (by kernel_rfl) (by kernel_rfl) (by kernel_rfl) (by rfl) hPan ?_ hS ?_; rotate_left; (intro w' hSw; obtain ⟨f1,f2⟩ := hF w' hSw; go_simp; try with_reducible rfl); simp only [Act.put, List.setIfInBounds_toArray, List.set_cons_zero, List.set_cons_succ])
        refine ap_agg 2 26 (.tmp 4) il rfl (by kernel_rfl) (by kernel_rfl) (by kernel_rfl) (by kernel_rfl) (by rfl) hPan rfl rfl (by rw [HIC.out]; exact agg_image) hC0 hS ?_
        (simp only [Act.put, List.setIfInBounds_toArray, List.set_cons_zero, List.set_cons_succ])
        (refine ap_val (v := ?_) 3 rfl (by kernel_rfl) (by kernel_rfl) (by kernel_rfl) (by kernel_rfl) (by rfl) hPan ?_ hS ?_; rotate_left; (intro w' hSw; obtain ⟨f1,f2⟩ := hF w' hSw; go_simp; try with_reducible rfl); simp only [Act.put, List.setIfInBounds_toArray, List.set_cons_zero, List.set_cons_succ])
        (refine ap_val (v := ?_) 4 rfl (by kernel_rfl) (by kernel_rfl) (by kernel_rfl) (by kernel_rfl) (by rfl) hPan ?_ hS ?_; rotate_left; (intro w' hSw; obtain ⟨f1,f2⟩ := hF w' hSw; go_simp; try with_reducible rfl); simp only [Act.put, List.setIfInBounds_toArray, List.set_cons_zero, List.set_cons_succ])
        (refine ap_val (v := ?_) 5 rfl (by kernel_rfl) (by kernel_rfl) (by kernel_rfl) (by kernel_rfl) (by rfl) hPan ?_ hS ?_; rotate_left; (intro w' hSw; obtain ⟨f1,f2⟩ := hF w' hSw; go_simp; try with_reducible rfl); simp only [Act.put, List.setIfInBounds_toArray, List.set_cons_zero, List.set_cons_succ])
        (refine ap_val (v := ?_) 8 rfl (by kernel_rfl) (by kernel_rfl) (by kernel_rfl) (by kernel_rfl) (by rfl) hPan ?_ hS ?_; rotate_left; (intro w' hSw; obtain ⟨f1,f2⟩ := hF w' hSw; go_simp; try with_reducible rfl); simp only [Act.put, List.setIfInBounds_toArray, List.set_cons_zero, List.set_cons_succ])
        (refine ap_val (v := ?_) 9 rfl (by kernel_rfl) (by kernel_rfl) (by kernel_rfl) (by kernel_rfl) (by rfl) hPan ?_ hS ?_; rotate_left; (intro w' hSw; obtain ⟨f1,f2⟩ := hF w' hSw; go_simp; try with_reducible rfl); simp only [Act.put, List.setIfInBounds_toArray, List.set_cons_zero, List.set_cons_succ])
        refine ap_agg 10 26 (.tmp 4) il rfl (by kernel_rfl) (by kernel_rfl) (by kernel_rfl) (by kernel_rfl) (by rfl) hPan rfl rfl (by rw [HIC.out]; exact agg_image) hC0 hS ?_
        (simp only [Act.put, List.setIfInBounds_toArray, List.set_cons_zero, List.set_cons_succ])
        (refine ap_val (v := ?_) 11 rfl (by kernel_rfl) (by kernel_rfl) (by kernel_rfl) (by kernel_rfl) (by rfl) hPan ?_ hS ?_; rotate_left; (intro w' hSw; obtain ⟨f1,f2⟩ := hF w' hSw; go_simp; try with_reducible rfl); simp only [Act.put, List.setIfInBounds_toArray, List.set_cons_zero, List.set_cons_succ])
        refine ap_agg 12 47 (.tmp 6) lc rfl (by kernel_rfl) (by kernel_rfl) (by kernel_rfl) (by kernel_rfl) (by rfl) hPan rfl rfl (by rw [HOC.out]; exact agg_offs) hC1 hS ?_
        (simp only [Act.put, List.setIfInBounds_toArray, List.set_cons_zero, List.set_cons_succ])
        (refine ap_val (v := ?_) 13 rfl (by kernel_rfl) (by kernel_rfl) (by kernel_rfl) (by kernel_rfl) (by rfl) hPan ?_ hS ?_; rotate_left; (intro w' hSw; obtain ⟨f1,f2⟩ := hF w' hSw; go_simp; try with_reducible rfl); simp only [Act.put, List.setIfInBounds_toArray, List.set_cons_zero, List.set_cons_succ])
        (refine ap_val (v := ?_) 16 rfl (by kernel_rfl) (by kernel_rfl) (by kernel_rfl) (by kernel_rfl) (by rfl) hPan ?_ hS ?_; rotate_left; (intro w' hSw; obtain ⟨f1,f2⟩ := hF w' hSw; go_simp; try with_reducible rfl); simp only [Act.put, List.setIfInBounds_toArray, List.set_cons_zero, List.set_cons_succ])
        refine ap_one 6 (by kernel_rfl) ?_
        refine op_call (f := 55) (vs := #[.agg il.toArray, .int .u32 ((f ||| t : Nat) : Int), .int .u32 ((f ||| t : Nat) : Int), .int .i64 (m : Int)]) 6 rfl (by rfl) rfl (by simp only [List.map_toArray, List.map_cons, List.map_nil]; rfl) Tryz.func55 (by kernel_rfl) (by kernel_rfl) (HBl _ (KW2.out.then hS)).out ?_
        rintro e w5 ⟨rfl, k5⟩
        replace hS := hS.then k5
        refine ⟨_, rfl, fun _ => hS, ?_⟩
        clear k5
        (simp only [Act.put, List.setIfInBounds_toArray, List.set_cons_zero, List.set_cons_succ])
        have hwr : IntKind.i64.wrap (tco + bm) = tco + bm := IntWalk.i64_in _ (by omega)
        (refine ap_val (v := ?_) 7 rfl (by kernel_rfl) (by kernel_rfl) (by kernel_rfl) (by kernel_rfl) (by rfl) hPan ?_ hS ?_; rotate_left; (intro w' hSw; obtain ⟨f1,f2⟩ := hF w' hSw; go_simp; try with_reducible rfl); simp only [Act.put, List.setIfInBounds_toArray, List.set_cons_zero, List.set_cons_succ])
        clear hwr
        refine ap_one 14 (by kernel_rfl) ?_
        refine op_call (f := 61) (vs := #[.agg il.toArray, .int .i64 (k : Int), .agg lc.toArray, .int .i64 (m : Int)]) 14 rfl (by rfl) rfl (by simp only [List.map_toArray, List.map_cons, List.map_nil]; rfl) Tryz.func61 (by kernel_rfl) (by kernel_rfl) (hOk _ (KW2.out.then hS)).out ?_
        rintro e w6 ⟨rfl, k6⟩
        replace hS := hS.then k6
        refine ⟨_, rfl, fun _ => hS, ?_⟩
        clear k6
        (simp only [Act.put, List.setIfInBounds_toArray, List.set_cons_zero, List.set_cons_succ])
        have hwr : IntKind.i64.wrap (tde + om) = tde + om := IntWalk.i64_in _ (by omega)
        (refine ap_val (v := ?_) 15 rfl (by kernel_rfl) (by kernel_rfl) (by kernel_rfl) (by kernel_rfl) (by rfl) hPan ?_ hS ?_; rotate_left; (intro w' hSw; obtain ⟨f1,f2⟩ := hF w' hSw; go_simp; try with_reducible rfl); simp only [Act.put, List.setIfInBounds_toArray, List.set_cons_zero, List.set_cons_succ])
        clear hwr
        have HL6 := HFL A cc _ (HRd2.out.keep0 hS)
        refine ap_one 17 (by kernel_rfl) ?_
        refine op_call (f := 54) (vs := #[.int .i64 (tco + bm), .int .i64 (tde + om), .slice A ts.length cc]) 17 rfl (by rfl) rfl (by simp only [List.map_toArray, List.map_cons, List.map_nil]; rfl) Tryz.func54 (by kernel_rfl) (by kernel_rfl) HL6.out ?_
        rintro e w7 ⟨rfl, k7⟩
        replace hS := hS.then k7
        refine ⟨_, rfl, fun _ => hS, ?_⟩
        clear k7
        rw [numRes_eq]
        rw [numRes_eq (leastR _ _ _)] at HX
        generalize leastR (tco + bm) (tde + om) (allM ts) = rs at *
        (simp only [Act.put, List.setIfInBounds_toArray, List.set_cons_zero, List.set_cons_succ])
        (refine ap_val (v := ?_) 18 rfl (by kernel_rfl) (by kernel_rfl) (by kernel_rfl) (by kernel_rfl) (by rfl) hPan ?_ hS ?_; rotate_left; (intro w' hSw; obtain ⟨f1,f2⟩ := hF w' hSw; go_simp; try with_reducible rfl); simp only [Act.put, List.setIfInBounds_toArray, List.set_cons_zero, List.set_cons_succ])
        (refine ap_val (v := ?_) 19 rfl (by kernel_rfl) (by kernel_rfl) (by kernel_rfl) (by kernel_rfl) (by rfl) hPan ?_ hS ?_; rotate_left; (intro w' hSw; obtain ⟨f1,f2⟩ := hF w' hSw; go_simp; try with_reducible rfl); simp only [Act.put, List.setIfInBounds_toArray, List.set_cons_zero, List.set_cons_succ])
        (refine ap_val (v := ?_) 20 rfl (by kernel_rfl) (by kernel_rfl) (by kernel_rfl) (by kernel_rfl) (by rfl) hPan ?_ hS ?_; rotate_left; (intro w' hSw; obtain ⟨f1,f2⟩ := hF w' hSw; go_simp; try with_reducible rfl); simp only [Act.put, List.setIfInBounds_toArray, List.set_cons_zero, List.set_cons_succ])
        refine ap_one 21 (by kernel_rfl) ?_
        refine op_run (v := .bool rs.isSome) (w' := w7) 21 rfl (by rfl) (by go_simp) ?_
        refine ⟨fun _ => hS, ap_done (by kernel_rfl) ?_ _⟩
        (simp only [Act.put, List.setIfInBounds_toArray, List.set_cons_zero, List.set_cons_succ])
        have HS := Lib.hid hS
        clear hS hPan hF HL6
        go_wp2
        go_ret2
        exact ⟨by rw [HX.out]; rfl, KF.out.then HS.out⟩
end Go.Proofs.YtnnnjcgddmhdmaaGreatDoor
