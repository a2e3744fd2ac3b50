/- The document on changes (layer 19): the tasks of an edge's modes, offsets, times behind. Condition: small numbers. -/
import Derived.Test.YtggjhjbcdnffnaaGreatDoorWinF
import Derived.Test.YtggjhjbcdnffnaaGreatDoorRef18
namespace Go.Proofs.YtggjhjbcdnffnaaGreatDoor
open Go.RowKit

/-- An edge of an image, and the sets of its modes. -/
structure EdgeIn (x : Img) (k f t : Nat) : Prop where
  lt : k < x.edges.length
  ex : ∃ a b, ∃ (ha : a < x.modes.length) (hb : b < x.modes.length), x.edges[k].frm = (a : Int) ∧ x.edges[k].to = (b : Int) ∧ x.modes[a].set = f ∧ x.modes[b].set = t
theorem EdgeIn.f_lt {x : Img} {k f t : Nat} (h : EdgeIn x k f t) (hx : x.Ok) : f < 4294967296 := by
  obtain ⟨a, b, ha, hb, _, _, rfl, _⟩ := h.ex
  exact hx.set _ (List.getElem_mem ha)
theorem EdgeIn.t_lt {x : Img} {k f t : Nat} (h : EdgeIn x k f t) (hx : x.Ok) : t < 4294967296 := by
  obtain ⟨a, b, ha, hb, _, _, _, rfl⟩ := h.ex
  exact hx.set _ (List.getElem_mem hb)
theorem agg_edge23 : AggOf Tryz.prog 87 23 := ⟨by kernel_rfl, by kernel_rfl⟩
set_option maxRecDepth 100000 in
set_option maxHeartbeats 1000000 in
theorem sets_any (v : ImgV) (x : Img) (k f t : Nat) (w : World) (h : ImgAt w v x) (he : EdgeIn x k f t) :
    Calls Tryz.prog 45 #[.agg (imgCells v x).toArray, .int .i64 (k : Int)] w fun e w' => e = .returned (.tuple #[.int .u32 (f : Int), .int .u32 (t : Int)]) ∧ Keep [] w w' := by
  have hl := h.le
  have hlm := h.lm
  unfold maxLen at hl hlm
  have hk := he.lt
  obtain ⟨a, c, ha, hc, e0, e1, e2, e3⟩ := he.ex
  obtain ⟨W0, hW0⟩ : ∃ W0, w.alloc (.cells (imgCells v x).toArray 26) = W0 := ⟨_, rfl⟩
  have b0 : Blk W0 w.heap.size 26 (imgCells v x).toArray := by rw [← hW0]; exact img_box w v x
  have K0 : Keep [] w W0 := by rw [← hW0]; exact (Keep.refl [] w).alloc _
  have c3 : W0.cell? ⟨w.heap.size, 3, none⟩ = some (.slice v.ea x.edges.length v.ec) := by rw [b0.cell]; rfl
  have c2 : W0.cell? ⟨w.heap.size, 2, none⟩ = some (.slice v.ma x.modes.length v.mc) := by rw [b0.cell]; rfl
  obtain ⟨b, o, hA, hbw, hcs⟩ := h.edge (by omega)
  obtain ⟨bm, om, hM, hbm, hcm⟩ := h.mode (by omega)
  have hct := Lib.hid ((hcs k hk).keep0 K0 hbw)
  obtain ⟨_, _, hm1, _⟩ := hcm a ha
  obtain ⟨_, _, hm2, _⟩ := hcm c hc
  have m1 := (hm1.keep0 K0 hbm) 0 _ rfl
  have m2 := (hm2.keep0 K0 hbm) 0 _ rfl
  rw [e2, Nat.add_zero] at m1
  rw [e3, Nat.add_zero] at m2
  rw [hA] at c3
  rw [hM] at c2
  have hbm0 := Nat.lt_of_lt_of_le hbm K0.size
  have HEL : Hid ((edgCells x.edges[k]).length = 23) := edgCells_len (h.ok.offs _ (List.getElem_mem hk)) (h.ok.mp _ (List.getElem_mem hk))
  have HEO : Hid (∀ u ∈ edgCells x.edges[k], u.oneCell' = true) := iv_one _
  have g0 : (edgCells x.edges[k])[0]? = some (.int .i64 (a : Int)) := by rw [← e0]; rfl
  have g1 : (edgCells x.edges[k])[1]? = some (.int .i64 (c : Int)) := by rw [← e1]; rfl
  have p0 : (0 : Int) ≤ (k : Int) := by omega
  have p1 : (k : Int) < (x.edges.length : Int) := by omega
  have p2 : (0 : Int) ≤ (a : Int) := by omega
  have p3 : (a : Int) < (x.modes.length : Int) := by omega
  have p4 : (0 : Int) ≤ (c : Int) := by omega
  have p5 : (c : Int) < (x.modes.length : Int) := by omega
  have G0 := Lib.hid g0
  have G1 := Lib.hid g1
  have B0 := Lib.hid b0
  have HW := Lib.hid hW0
  clear hcs hcm hm1 hm2 e0 e1 e2 e3 h g0 g1 b0 hW0 he
  generalize edgCells x.edges[k] = ec at *
  generalize imgCells v x = il at *
  go_enter Tryz.func45, Tryz.ntmps45
  go_wp2_with (first
    | rw [HW.out]
    | (refine wpList_load_agg rfl 87 (.tmp 10) rfl rfl (cs := ec) (by rw [HEL.out]; exact agg_edge23) hct.out ?_)
    | (refine stop_store 87 (.tmp 6) (.tmp 11) rfl ?_))
  constructor
  refine wpList_store_all rfl 87 (.tmp 6) (.tmp 11) rfl rfl rfl (vs := ec) (by rw [HEL.out]; exact agg_edge23.2) (Blk.new _ _ _) HEO.out ?_ ?_
  · rw [HEL.out]; rfl
  intro w2 d2 k2
  have K2 : Keep [] W0 w2 := ((Keep.refl [] W0).alloc _).trans k2 (fun y hy hlt => by simp at hy; omega)
  have HF : ∀ w', Keep [] w2 w' → w'.cell? ⟨w.heap.size, 2, none⟩ = some (.slice (some ⟨bm, om, none⟩) x.modes.length v.mc) ∧ w'.cell? ⟨W0.heap.size, 0, none⟩ = some (.int .i64 (a : Int)) ∧ w'.cell? ⟨W0.heap.size, 1, none⟩ = some (.int .i64 (c : Int)) ∧
      w'.cell? ⟨bm, om + a * 2, none⟩ = some (.int .u32 (f : Int)) ∧ w'.cell? ⟨bm, om + c * 2, none⟩ = some (.int .u32 (t : Int)) := fun w' hk' =>
    ⟨((K2.then hk').cell (p := ⟨w.heap.size, 2, none⟩) B0.out.lt (by simp)).trans c2, (d2.keep0 hk').at_ G0.out, (d2.keep0 hk').at_ G1.out, ((K2.then hk').cell (p := ⟨bm, om + a * 2, none⟩) hbm0 (by simp)).trans m1, ((K2.then hk').cell (p := ⟨bm, om + c * 2, none⟩) hbm0 (by simp)).trans m2⟩
  have KW := Lib.hid (K0.then K2)
  clear k2 K2 d2
  go_wp2
  refine wp_region_flow (Keep [] w2) rfl (by kernel_rfl) (Keep.refl _ _).drew ?_
  repeat (refine fl_val (v := ?_) (by rfl) ?_ ?_; rotate_left; (intro w' hS; obtain ⟨f1,f2,f3,f4,f5⟩ := HF w' hS; go_simp; with_reducible rfl); simp only [Act.put, List.setIfInBounds_toArray, List.set_cons_zero, List.set_cons_succ])
  refine fl_nil ?_
  intro w4 hS
  have HS := Lib.hid hS
  clear hS HF
  go_wp2
  go_ret2
  exact ⟨rfl, KW.out.then HS.out⟩
set_option maxRecDepth 100000 in
set_option maxHeartbeats 1000000 in
theorem roff_any (v : ImgV) (x : Img) (k f t : Nat) (L : List Int) (i : Nat) (w : World) (h : ImgAt w v x) (he : EdgeIn x k f t) (hL : L.length = 16) (hi : i < 16) :
    Calls Tryz.prog 72 #[.agg (imgCells v x).toArray, .int .i64 (k : Int), .agg (iv L).toArray, .int .i64 (i : Int)] w fun e w' => e = .returned (.int .i64 (offR f t L (i : Int))) ∧ Keep [] w w' := by
  obtain ⟨W0, hW0⟩ : ∃ W0, (w.alloc (.cells (imgCells v x).toArray 26)).alloc (.cells (iv L).toArray 84) = W0 := ⟨_, rfl⟩
  have b0 : Blk W0 w.heap.size 26 (imgCells v x).toArray := by rw [← hW0]; exact (img_box w v x).alloc _
  have b1 : Blk W0 (w.heap.size + 1) 84 (iv L).toArray := by rw [← hW0]; exact Blk.new1 _ _ _ _
  have K0 : Keep [] w W0 := by rw [← hW0]; exact ((Keep.refl [] w).alloc _).alloc _
  have HSe := Lib.hid (sets_any v x k f t W0 (h.keep0 K0) he)
  have HC0 := Lib.hid b0.cellsAt
  have HIC : Hid ((imgCells v x).length = 4) := show _ = _ from rfl
  have hft := he.t_lt h.ok
  have hff := he.f_lt h.ok
  have HT := fun w => Lib.hid (has10_any t (i : Int) w hft)
  have HF := fun w => Lib.hid (has10_any f (i : Int) w hff)
  have HO : Hid (offR f t L (i : Int) = if has10 t (i : Int) = true ∧ has10 f (i : Int) = false then L.getD i 0 else 0) := show _ = _ from rfl
  have hgl : (iv L)[i]? = some (.int .i64 (L.getD i 0)) := by
    unfold iv
    rw [List.getElem?_map, List.getD_eq_getElem?_getD, List.getElem?_eq_getElem (show i < L.length by omega)]; rfl
  have hcl : ∀ w', Keep [] W0 w' → w'.cell? ⟨w.heap.size + 1, i, none⟩ = some (.int .i64 (L.getD i 0)) := fun w' hk => (b1.keep0 hk).at_ hgl
  have p0 : (0 : Int) ≤ (i : Int) := by omega
  have p1 : (i : Int) < 16 := by omega
  have HW := Lib.hid hW0
  clear hW0 b0 b1 hgl h he hL
  generalize imgCells v x = il at *
  generalize (iv L).toArray = lc at *
  cases ht : has10 t (i : Int) with
  | false =>
    rw [ht] at HT
    have HX : Hid (offR f t L (i : Int) = 0) := by show _ = _; rw [HO.out, ht]; rfl
    go_enter Tryz.func72, Tryz.ntmps72
    go_wp2_with (first
      | rw [HW.out]
      | (refine wpList_load_agg rfl 26 (.tmp 4) rfl rfl (cs := il) (by rw [HIC.out]; exact agg_image) HC0.out ?_)
      | (refine HSe.out.mono ?_; rintro e w2 ⟨rfl, k2⟩)
      | (refine (HT _).out.mono ?_; rintro e w3 ⟨rfl, rfl⟩))
    go_ret
    exact ⟨by rw [HX.out]; rfl, K0.then k2⟩
  | true =>
    rw [ht] at HT
    cases hf : has10 f (i : Int) with
    | true =>
      rw [hf] at HF
      have HX : Hid (offR f t L (i : Int) = 0) := by show _ = _; rw [HO.out, ht, hf]; rfl
      go_enter Tryz.func72, Tryz.ntmps72
      go_wp2_with (first
        | rw [HW.out]
        | (refine wpList_load_agg rfl 26 (.tmp 4) rfl rfl (cs := il) (by rw [HIC.out]; exact agg_image) HC0.out ?_)
        | (refine HSe.out.mono ?_; rintro e w2 ⟨rfl, k2⟩)
        | (refine (HT _).out.mono ?_; rintro e w3 ⟨rfl, rfl⟩; clear HT)
        | (refine (HF _).out.mono ?_; rintro e w3 ⟨rfl, rfl⟩))
      go_ret
      exact ⟨by rw [HX.out]; rfl, K0.then k2⟩
    | false =>
      rw [hf] at HF
      have HX : Hid (offR f t L (i : Int) = L.getD i 0) := by show _ = _; rw [HO.out, ht, hf]; rfl
      generalize L.getD i 0 = z at *
      go_enter Tryz.func72, Tryz.ntmps72
      go_wp2_with (first
        | rw [HW.out]
        | (refine wpList_load_agg rfl 26 (.tmp 4) rfl rfl (cs := il) (by rw [HIC.out]; exact agg_image) HC0.out ?_)
        | (refine HSe.out.mono ?_; rintro e w2 ⟨rfl, k2⟩; have hz := hcl w2 k2)
        | (refine (HT _).out.mono ?_; rintro e w3 ⟨rfl, rfl⟩; clear HT)
        | (refine (HF _).out.mono ?_; rintro e w3 ⟨rfl, rfl⟩))
      go_ret
      exact ⟨by rw [HX.out]; rfl, K0.then k2⟩
set_option maxRecDepth 100000 in
theorem greater_any (a b : Int) (w : World) : Calls Tryz.prog 47 #[.int .i64 a, .int .i64 b] w fun e w' => e = .returned (.int .i64 (greatM a b)) ∧ w = w' := by
  have HG : Hid (greatM a b = if a > b then a else b) := show _ = _ from rfl
  rcases Int.lt_or_le b a with h | h
  · have HX : Hid (greatM a b = a) := by show _ = _; rw [HG.out, if_pos h]
    go_enter Tryz.func47, Tryz.ntmps47
    go_wp2
    go_ret
    exact ⟨by rw [HX.out]; rfl, rfl⟩
  · have HX : Hid (greatM a b = b) := by show _ = _; rw [HG.out, if_neg (by omega)]
    go_enter Tryz.func47, Tryz.ntmps47
    go_wp2
    go_ret
    exact ⟨by rw [HX.out]; rfl, rfl⟩
set_option maxRecDepth 100000 in
set_option maxHeartbeats 1000000 in
theorem rbeh_any (v : ImgV) (x : Img) (k f t : Nat) (i : Nat) (w : World) (h : ImgAt w v x) (he : EdgeIn x k f t) (hx : Small x) (hi : i < x.tasks.length) :
    Calls Tryz.prog 71 #[.agg (imgCells v x).toArray, .int .i64 (k : Int), .int .i64 (i : Int)] w fun e w' => e = .returned (numRes (behR x f t i)) ∧ Keep [] w w' := by
  have b0 := img_box w v x
  obtain ⟨W0, hW0⟩ : ∃ W0, w.alloc (.cells (imgCells v x).toArray 26) = W0 := ⟨_, rfl⟩
  rw [hW0] at b0
  have K0 : Keep [] w W0 := by rw [← hW0]; exact (Keep.refl [] w).alloc _
  have HSe := Lib.hid (sets_any v x k f t W0 (h.keep0 K0) he)
  have HC0 : ∀ w', Keep [] W0 w' → CellsAt w' w.heap.size 0 (imgCells v x) := fun w' hk => (b0.keep0 hk).cellsAt
  have HIC : Hid ((imgCells v x).length = 4) := show _ = _ from rfl
  have hft := he.t_lt h.ok
  have hff := he.f_lt h.ok
  have hor : f ||| t < 4294967296 := Nat.or_lt_two_pow (n := 32) hff hft
  have HT := fun w => Lib.hid (has10_any t (i : Int) w hft)
  have HRe := fun w' hk' => Lib.hid (rresp_any v x t (f ||| t) (f ||| t) i w' (h.keep0 (K0.then hk')) hft hor hor hx hi)
  have HB : Hid (behR x f t i = if has10 t (i : Int) = true then rrespM x t (f ||| t) (f ||| t) i else none) := show _ = _ from rfl
  have hor2 : bits .or .u32 (f : Int) (t : Int) = ((f ||| t : Nat) : Int) := u32_or_nat f t hff hft
  have HW := Lib.hid hW0
  clear hW0 b0 h he hx
  generalize imgCells v x = il at *
  cases ht : has10 t (i : Int) with
  | false =>
    rw [ht] at HT
    have HX : Hid (numRes (behR x f t i) = .tuple #[.int .i64 0, .bool false]) := by show _ = _; rw [HB.out, ht]; rfl
    go_enter Tryz.func71, Tryz.ntmps71
    go_wp2_with (first
      | rw [HW.out]
      | (refine wpList_load_agg rfl 26 (.tmp 3) rfl rfl (cs := il) (by rw [HIC.out]; exact agg_image) (HC0 _ (Keep.refl _ _)) ?_)
      | (refine HSe.out.mono ?_; rintro e w2 ⟨rfl, k2⟩)
      | (refine (HT _).out.mono ?_; rintro e w3 ⟨rfl, rfl⟩))
    go_ret2
    exact ⟨by rw [HX.out]; rfl, K0.then k2⟩
  | true =>
    rw [ht] at HT
    have HX : Hid (numRes (behR x f t i) = numRes (rrespM x t (f ||| t) (f ||| t) i)) := by show _ = _; rw [HB.out, ht]; rfl
    generalize rrespM x t (f ||| t) (f ||| t) i = rr at *
    rw [numRes_eq rr] at HX HRe
    go_enter Tryz.func71, Tryz.ntmps71
    go_wp2_with (first
      | rw [HW.out]
      | (refine wpList_load_agg rfl 26 (.tmp 3) rfl rfl (cs := il) (by rw [HIC.out]; exact agg_image) (HC0 _ (Keep.refl _ _)) ?_)
      | (refine HSe.out.mono ?_; rintro e w2 ⟨rfl, k2⟩; have HC2 := Lib.hid (HC0 w2 k2); clear HC0)
      | (refine (HT _).out.mono ?_; rintro e w3 ⟨rfl, rfl⟩)
      | refine stop_at 20 rfl ?_)
    constructor
    refine wpList_load_agg rfl 26 (.tmp 3) rfl rfl (cs := il) (by rw [HIC.out]; exact agg_image) HC2.out ?_
    go_wp2_with fail
    refine (HRe _ k2).out.mono ?_
    rintro e w5 ⟨rfl, k5⟩
    go_wp2
    go_ret2
    exact ⟨by rw [HX.out]; rfl, (K0.then k2).then k5⟩
end Go.Proofs.YtggjhjbcdnffnaaGreatDoor
