/- Found offsets (offset's Find). Condition: the table of math/bits lies where the program's text lays it; small numbers. The least offset that does for all new tasks (offset's Common). Condition: the table of math/bits lies where the program's text lays it; small numbers. -/
import Derived.Test.YtggjhjbcdnffnaaDoorOffB
namespace Go.Proofs.YtggjhjbcdnffnaaDoor
open Go.RowKit
attribute [local go_sem] Oper.semAt_some

set_option maxRecDepth 100000 in
set_option maxHeartbeats 1000000 in
theorem clsEdge_out (v : ImgV) (x : Img) (edge : Int) (w : World) (h : ImgAt w v x) (he : edge < 0 ∨ (x.edges.length : Int) ≤ edge) :
    Calls Tryd.prog 36 #[.agg (imgCells v x).toArray, .int .i64 edge] w fun e w' => e = .returned (.agg #[.int .u32 0, .int .u32 0, .int .u32 0]) ∧ Keep [] w w' := by
  have hl := h.le
  unfold maxLen at hl
  obtain ⟨W0, hW0⟩ : ∃ W0, (w.alloc (.cells (imgCells v x).toArray 26)).alloc (.cells #[.int .u32 0, .int .u32 0, .int .u32 0] 33) = W0 := ⟨_, rfl⟩
  have b0 : Blk W0 w.heap.size 26 (imgCells v x).toArray := by rw [← hW0]; exact (img_box w v x).alloc _
  have b1 : Blk W0 (w.heap.size + 1) 33 #[.int .u32 0, .int .u32 0, .int .u32 0] := by rw [← hW0]; exact Blk.new1 _ _ _ _
  have K0 : Keep [] w W0 := by rw [← hW0]; exact ((Keep.refl _ w).alloc _).alloc _
  have c3 : W0.cell? ⟨w.heap.size, 3, none⟩ = some (.slice v.ea x.edges.length v.ec) := by rw [b0.cell]; rfl
  have HW := Lib.hid hW0
  have B1 := Lib.hid b1
  clear h b0 b1 hW0
  generalize imgCells v x = il at *
  rcases he with he | he
  · have p0 : decide (edge < 0) = true := decide_eq_true he
    go_enter Tryd.func36, Tryd.ntmps36
    go_wp2_with (first
      | rw [HW.out]
      | refine stop_store 33 (.tmp 4) (.tmp 14) rfl ?_)
    constructor
    refine wpList_store_all rfl 33 (.tmp 4) (.tmp 14) rfl rfl rfl (vs := [.int .u32 0, .int .u32 0, .int .u32 0]) (by kernel_rfl) B1.out (by simp [Value.oneCell']) rfl ?_
    intro w5 d5 k5
    have K5 : Keep [] w w5 := K0.trans k5 (fun y hy hlt => by simp at hy; omega)
    go_wp2
    refine bodyPost_ret (results_blk rfl _ rfl d5 agg_cls) rfl ?_
    exact ⟨rfl, K5⟩
  · have p0 : decide (edge < 0) = false := decide_eq_false (by omega)
    have p1 : decide ((x.edges.length : Int) ≤ edge) = true := decide_eq_true he
    go_enter Tryd.func36, Tryd.ntmps36
    go_wp2_with (first
      | rw [HW.out]
      | refine stop_store 33 (.tmp 4) (.tmp 14) rfl ?_)
    constructor
    refine wpList_store_all rfl 33 (.tmp 4) (.tmp 14) rfl rfl rfl (vs := [.int .u32 0, .int .u32 0, .int .u32 0]) (by kernel_rfl) B1.out (by simp [Value.oneCell']) rfl ?_
    intro w5 d5 k5
    have K5 : Keep [] w w5 := K0.trans k5 (fun y hy hlt => by simp at hy; omega)
    go_wp2
    refine bodyPost_ret (results_blk rfl _ rfl d5 agg_cls) rfl ?_
    exact ⟨rfl, K5⟩

theorem run_new_field (a b c : Int) (w : World) : (Instr.field 33 (.agg #[.int .u32 a, .int .u32 b, .int .u32 c]) 1).run Tryd.prog w = .ok (.int .u32 b) w := by kernel_rfl
/-- The offsets that Find finds for an edge of an image. -/
def findR (x : Img) (k : Nat) : List Int := if fitsB x k (farL (clsE x k).new 16384) = true then findTo (fitsB x k) (clsE x k).new 16 else z16
def findB (x : Img) (k : Nat) : Bool := fitsB x k (farL (clsE x k).new 16384)
def foldO (x : Img) (k : Nat) (pre : List Nat) : List Int := pre.foldl (stepO (fitsB x k)) (farL (clsE x k).new 16384)
theorem foldO_snoc (x : Img) (k : Nat) (pre : List Nat) (i : Nat) : foldO x k (pre ++ [i]) = (foldO x k pre).set i (leastO (fitsB x k) (foldO x k pre) i) := by
  unfold foldO
  rw [List.foldl_append]; rfl
theorem new_inW {x : Img} {k : Nat} (hE : EdW x k) : ∀ i, 16 ≤ i → (clsE x k).new.testBit i = false := fun i hi => by
  have := hE.both i (by have := hE.small.n; omega)
  unfold Cls.both at this
  rw [Nat.testBit_or, Nat.testBit_or] at this
  simp at this
  exact this.1.2
theorem foldO_all {x : Img} {k : Nat} (hE : EdW x k) : foldO x k (bitsL (clsE x k).new) = findTo (fitsB x k) (clsE x k).new 16 := findTo_bits _ _ (new_inW hE)
set_option maxRecDepth 100000 in
set_option maxHeartbeats 3000000 in
theorem find_any (v : ImgV) (x : Img) (k : Nat) (w : World) (hTb : Tab w) (h : ImgAt w v x) (hE : EdW x k) :
    Calls Tryd.prog 23 #[.agg (imgCells v x).toArray, .int .i64 (k : Int)] w fun e w' => e = .returned (.tuple #[.agg (iv (findR x k)).toArray, .bool (findB x k)]) ∧ Keep [] w w' := by
  rw [← callsIn_wide (n := 9)]
  refine callsIn_of_wp_marks Tryd.func23 rfl trivial ?_ rfl
  simp only [Tryd.ntmps23, List.size_toArray, List.length_cons, List.length_nil, Nat.reduceAdd, Nat.reduceSub, Array.replicate_succ, Array.replicate_zero, List.push_toArray, List.append_toArray, List.nil_append, List.cons_append]
  obtain ⟨W0, hW0⟩ : ∃ W0, ((w.alloc (.cells (imgCells v x).toArray 26)).alloc (.cells #[.int .i64 (k : Int)] 3)).alloc (.cells (iv z16).toArray 27) = W0 := ⟨_, rfl⟩
  have b0 : Blk W0 w.heap.size 26 (imgCells v x).toArray := by rw [← hW0]; exact ((img_box w v x).alloc _).alloc _
  have b1 : Blk W0 (w.heap.size + 1) 3 #[.int .i64 (k : Int)] := by rw [← hW0]; exact (Blk.new1 _ _ _ _).alloc _
  have b2 : Blk W0 (w.heap.size + 2) 27 (iv z16).toArray := by rw [← hW0]; exact Blk.new2 _ _ _ _ _
  have K0 : Keep [] w W0 := by rw [← hW0]; exact (((Keep.refl [] w).alloc _).alloc _).alloc _
  have hz0 : W0.heap.size = w.heap.size + 3 := by rw [← hW0]; simp
  have HIC : Hid ((imgCells v x).length = 4) := show _ = _ from rfl
  have HCF : ∀ w', Keep [] W0 w' → CellsAt w' w.heap.size 0 (imgCells v x) ∧ w'.cell? ⟨w.heap.size + 1, 0, none⟩ = some (.int .i64 (k : Int)) := fun w' hk => ⟨(b0.keep0 hk).cellsAt, by have := (b1.keep0 hk).cell 0; simpa using this⟩
  have hcok := clsE_ok x k h.ok
  have HEd := fun w' hk => Lib.hid (clsEdge_any v x k w' (h.keep0 hk) hE.lt)
  have HFa := fun w' hk => Lib.hid (far_any (clsE x k).new w' (hTb.keep0 hk) hcok.new)
  have hfo := farL_ok (clsE x k).new (z := 16384) (by omega)
  have HFi := fun w' hk => Lib.hid (fits_any v x k (farL (clsE x k).new 16384) w' (hTb.keep0 (w' := w') hk) (h.keep0 hk) hE hfo)
  have HLe := fun (N : List Int) (hN : OffOk N) (i : Nat) (hi : i < 16) w' hk => Lib.hid (least_any v x k i N w' (hTb.keep0 (w' := w') hk) (h.keep0 hk) hE hN hi)
  have hnw := new_inW hE
  have hlt : ∀ i, i ∈ bitsL (clsE x k).new → i < 16 := fun i hi => by
    have hb := (bitsL_mem.1 hi).2
    rcases Nat.lt_or_ge i 16 with h1 | h1
    · exact h1
    · rw [hnw i h1] at hb; cases hb
  have hfall := foldO_all hE
  have hTb0 := hTb
  have HBK : Hid (findB x k = fitsB x k (farL (clsE x k).new 16384)) := show _ = _ from rfl
  have hFR : Hid (findR x k = if fitsB x k (farL (clsE x k).new 16384) = true then findTo (fitsB x k) (clsE x k).new 16 else z16) := show _ = _ from rfl
  have hcls : (clsCells (clsE x k)).toArray = #[.int .u32 ((clsE x k).old : Int), .int .u32 ((clsE x k).new : Int), .int .u32 ((clsE x k).same : Int)] := rfl
  rw [hcls] at HEd
  obtain ⟨d0, d1⟩ := HCF W0 (Keep.refl _ _)
  have hcI := Lib.hid d0
  have HFO : Hid (foldO x k [] = farL (clsE x k).new 16384) := show _ = _ from rfl
  have hnl := hcok.new
  have HW : Hid (((w.alloc (.cells (imgCells v x).toArray 26)).alloc (.cells #[.int .i64 (k : Int)] 3)).alloc (.cells #[.int .i64 0, .int .i64 0, .int .i64 0, .int .i64 0, .int .i64 0, .int .i64 0, .int .i64 0, .int .i64 0, .int .i64 0, .int .i64 0, .int .i64 0, .int .i64 0, .int .i64 0, .int .i64 0, .int .i64 0, .int .i64 0] 27) = W0) := hW0
  clear hW0 hcls h hcok hnw d0
  generalize hnew : (clsE x k).new = nw at *
  generalize (clsE x k).old = od at *
  generalize (clsE x k).same = sm at *
  generalize hfl : farL nw 16384 = fl at *
  have HFL : Hid ((iv fl).length = 16) := by show _ = _; rw [iv_len]; exact hfo.1
  have hone : Hid (∀ u ∈ iv fl, u.oneCell' = true) := iv_one _
  clear hnew hfl
  have hfld := fun w => run_new_field (od : Int) (nw : Int) (sm : Int) w
  generalize imgCells v x = il at *
  gi_wp2_with (first
    | rw [HW.out]
    | (refine wpListIn_agg rfl 26 (.tmp 2) rfl rfl (cs := il) (by rw [HIC.out]; exact agg_image) hcI.out ?_)
    | (refine ⟨trivial, ?_⟩; gi_at_call 36; refine (callsIn_wide.2 (HEd _ K0).out).mono ?_; rintro e w1 ⟨rfl, k1⟩)
    | (refine ⟨trivial, ?_⟩; gi_at_call 58; refine (callsIn_wide.2 (HFa _ (K0.then k1)).out).mono ?_; rintro e w2 ⟨rfl, k2⟩)
    | refine stopIn_store 27 (.tmp 7) (.tmp 14) rfl ?_)
  constructor
  refine wpListIn_store_all rfl 27 (.tmp 7) (.tmp 14) rfl rfl rfl (vs := iv fl) (by rw [HFL.out]; exact agg_offs.2) (Blk.new _ _ _) hone.out (by rw [HFL.out]; rfl) ?_
  intro w3 e3 k3
  have k23 : Keep [] w2 w3 := ((Keep.refl [] w2).alloc _).trans k3 (fun y hy hlt => by simp at hy; omega)
  have K03 := (k1.then k2).then k23
  have hz2 : w.heap.size + 3 ≤ w2.heap.size := by have := (k1.then k2).size; omega
  have hz3 : w2.heap.size + 1 ≤ w3.heap.size := by have := k3.size; simpa using this
  have f2 := b2.keep0 K03
  obtain ⟨q0, q1⟩ := HCF w3 K03
  have hcI3 := Lib.hid q0
  have hcL3 := Lib.hid e3.cellsAt
  have KW3 := K0.then K03
  have HFi3 := HFi w3 KW3
  clear k1 k2 k3 k23 q0 HEd HFa HW hcI d1 HFi
  generalize hfb : fitsB x k fl = fb at *
  cases fb with
  | false =>
    have HX : Hid (findR x k = z16) := by show _ = _; rw [hFR.out, if_neg (by simp)]
    gi_wp2_with (first
      | (refine wpListIn_agg rfl 26 (.tmp 2) rfl rfl (cs := il) (by rw [HIC.out]; exact agg_image) hcI3.out ?_)
      | (refine wpListIn_agg rfl 27 (.tmp 7) rfl rfl (cs := iv fl) (by rw [HFL.out]; exact agg_offs) hcL3.out ?_)
      | (refine ⟨trivial, ?_⟩; gi_at_call 59; refine (callsIn_wide.2 HFi3.out).mono ?_; rintro e w4 ⟨rfl, k4⟩)
      | refine stopIn_store 27 (.tmp 4) (.tmp 20) rfl ?_)
    constructor
    refine wpListIn_store_all rfl 27 (.tmp 4) (.tmp 20) rfl rfl rfl (vs := iv z16) agg_offs.2 (f2.keep0 k4) (iv_one _) rfl ?_
    intro w5 d5 k5
    gi_wp2
    refine ⟨_, results_cell_tmp rfl _ rfl rfl d5 agg_offs, by rw [HX.out, HBK.out]; rfl, ?_⟩
    exact (KW3.then k4).trans k5 (fun y hy hlt => by simp at hy; omega)
  | true =>
    have HX : Hid (findR x k = findTo (fitsB x k) nw 16) := by show _ = _; rw [hFR.out, if_pos rfl]
    gi_wp2_with (first
      | (refine wpListIn_agg rfl 26 (.tmp 2) rfl rfl (cs := il) (by rw [HIC.out]; exact agg_image) hcI3.out ?_)
      | (refine wpListIn_agg rfl 27 (.tmp 7) rfl rfl (cs := iv fl) (by rw [HFL.out]; exact agg_offs) hcL3.out ?_)
      | (refine ⟨trivial, ?_⟩; gi_at_call 59; refine (callsIn_wide.2 HFi3.out).mono ?_; rintro e w4 ⟨rfl, k4⟩)
      | (refine ⟨trivial, ?_⟩; gi_at_call 54; refine (callsIn_wide.2 (maskAll_any nw _)).mono ?_; rintro e w6 ⟨rfl, hw6⟩))
    have k46 : Keep [] w4 w6 := by rw [← hw6]; exact (Keep.refl _ w4).alloc _
    have d6 : Blk w6 w4.heap.size 31 #[.int .u32 (nw : Int)] := by rw [← hw6]; exact Blk.new _ _ _
    have hz6 : w6.heap.size = w4.heap.size + 1 := by rw [← hw6]; simp
    have hz4 := k4.size
    have k36 := k4.then k46
    have KW6 := KW3.then k36
    have K06 := K03.then k36
    have hss := maskAll1_seq 8 nw w4.heap.size w6 (by omega) d6 hnl (hTb0.keep0 KW6)
    have hT0 := hTb0.1
    replace e3 := e3.keep0 k36
    replace f2 := f2.keep0 k36
    clear hw6 k4 k46 k36 hcI3 hcL3 HFi3 q1
    refine wpIn_rangeT (F := Fence.wide) (n := 9) (Lo := fun _ _ => False) (ps := #[23]) rfl (by omega) (gf := 85) (lb := #[.pointer (some ⟨w4.heap.size, 0, none⟩)]) rfl trivial (enters_of Tryd.func85 (by kernel_rfl) rfl)
      (hss.toT _) Same.trans (fun W _ o' _ _ => same_putO (by simp; omega) o') (Below.refl _ _) (fun _ => rfl)
      (fun pre W' => (OffOk (foldO x k pre) ∧ fitsB x k (foldO x k pre) = true) ∧ (Blk W' w2.heap.size 27 (iv (foldO x k pre)).toArray ∧ Keep [w2.heap.size] w6 W'))
      (fun _ _ _ => False)
      ?hI (fun _ _ _ _ _ hs _ _ => hs) ⟨⟨by rw [HFO.out]; exact hfo, by rw [HFO.out]; exact hfb⟩, by rw [HFO.out]; exact e3, Keep.refl _ _⟩
      (fun i => { tmps := #[.agg il.toArray, .int .i64 (k : Int), .pointer (some ⟨w.heap.size, 0, none⟩), .pointer (some ⟨w.heap.size + 1, 0, none⟩), .pointer (some ⟨w.heap.size + 2, 0, none⟩), .bool false, .int .u32 (nw : Int), .pointer (some ⟨w2.heap.size, 0, none⟩), .int .i64 (i : Int),
        .agg il.toArray, .int .i64 (k : Int), .agg #[.int .u32 (od : Int), .int .u32 (nw : Int), .int .u32 (sm : Int)], .int .u32 (nw : Int), .int .u32 (nw : Int), .agg (iv fl).toArray, .agg il.toArray, .int .i64 (k : Int), .agg (iv fl).toArray, .bool true, .bool false, undef, .int .u32 (nw : Int),
        .func (.func 85) #[] #[.pointer (some ⟨w4.heap.size, 0, none⟩)], .int .i64 (i : Int), undef, undef, undef, undef, undef, undef, undef, undef, undef, undef], defers := [] }) ?assign ?body ?done ?stop
    case hI => exact OwnFrom.toT (OwnFrom.and (fun _ _ _ _ hs _ _ => hs) (OwnFrom.and (blk_own _ _ _) (keep_own (Nat.le_refl _))))
    case assign =>
      intro l i W' K hK
      simp only [encN]
      gi_wp2
      exact hK
    case body =>
      rintro l pre i Wb ⟨⟨hok, hft⟩, hb, hK⟩ hpre
      have hi := hlt i (hpre.subset (by simp))
      have hKz := hK.size
      have KWb : Keep [] w Wb := KW6.trans hK (fun y hy hlt => by simp at hy; omega)
      have KB0 : Keep [w2.heap.size] W0 Wb := (K06.mono (by simp)).trans hK (fun y hy _ => hy)
      have hcI5 := Lib.hid (b0.keep KB0 (by simp; omega)).cellsAt
      have c5 := (b1.keep KB0 (by simp; omega)).cell 0
      simp at c5
      have HLi := HLe (foldO x k pre) hok i hi Wb KWb
      obtain ⟨s1, s2, s3⟩ := leastO_spec hok hft i
      have hsn := foldO_snoc x k pre i
      have HOC : Hid ((iv (foldO x k pre)).length = 16) := by show _ = _; rw [iv_len]; exact hok.1
      have hcL5 := Lib.hid hb.cellsAt
      have hok2 : OffOk (foldO x k (pre ++ [i])) ∧ fitsB x k (foldO x k (pre ++ [i])) = true := by
        rw [hsn]
        exact ⟨hok.set i s1, s2⟩
      have p0 : (0 : Int) ≤ (i : Int) := by omega
      have p1 : (i : Int) < 16 := by omega
      have p2 : decide ((i : Int) < 16) = true := decide_eq_true p1
      have p3 : decide (i < 16) = true := decide_eq_true hi
      have hcc : ∀ w', Keep [] Wb w' → ∃ u, w'.cell? ⟨w2.heap.size, i, none⟩ = some u := fun w' hk => ⟨_, (hb.keep0 hk).at_ (by unfold iv; rw [List.getElem?_map, List.getElem?_eq_getElem (by rw [hok.1]; exact hi)]; rfl)⟩
      have HB := Lib.hid hb
      clear hb s1 s2 s3
      generalize hzl : leastO (fitsB x k) (foldO x k pre) i = zl at *
      gi_wp2_with (first
        | (refine wpListIn_agg rfl 26 (.tmp 2) rfl rfl (cs := il) (by rw [HIC.out]; exact agg_image) hcI5.out ?_)
        | (refine wpListIn_agg rfl 27 (.tmp 7) rfl rfl (cs := iv (foldO x k pre)) (by rw [HOC.out]; exact agg_offs) hcL5.out ?_)
        | (refine ⟨trivial, ?_⟩; gi_at_call 60; refine ((callsIn_wide.2 HLi.out).inRound l).mono ?_; rintro e w8 ⟨rfl, k8⟩; obtain ⟨u8, c8⟩ := hcc w8 k8; have f8 := (HB.out.keep0 k8).frozen i))
      have kA : Keep [w2.heap.size] Wb (w8.setCell ⟨w2.heap.size, i, none⟩ (.int .i64 zl)) := (k8.mono (by simp)).setCell (by simp) _
      refine ⟨kA.from (fun y hy => .inl (by simp at hy; omega)), Same.keep kA (fun y hy => ⟨?_, ?_⟩), hok2, ?_, hK.trans kA (fun y hy _ => hy)⟩
      · simp only [List.mem_cons, List.not_mem_nil, or_false] at hy
        rcases hy with rfl | rfl <;> omega
      · simp only [List.mem_cons, List.not_mem_nil, or_false] at hy ⊢
        rcases hy with rfl | rfl <;> omega
      · have q := (HB.out.keep0 k8).set_ i (.int .i64 zl)
        rw [iv_set, ← hsn] at q
        exact q
    case done =>
      rintro D Wd hD ⟨⟨hok, _⟩, hb, hK⟩ hD2
      rw [hfall] at hb hok
      have HB := Lib.hid hb.cellsAt
      have HOC : Hid ((iv (findTo (fitsB x k) nw 16)).length = 16) := by show _ = _; rw [iv_len]; exact hok.1
      have f2' := f2.keep hK (by simp; omega)
      have hone2 : Hid (∀ u ∈ iv (findTo (fitsB x k) nw 16), u.oneCell' = true) := iv_one _
      generalize hfc : iv (findTo (fitsB x k) nw 16) = fc at *
      have HFC := Lib.hid hfc
      clear hfc
      gi_wp2_with (first
        | (refine wpListIn_agg rfl 27 (.tmp 7) rfl rfl (cs := fc) (by rw [HOC.out]; exact agg_offs) HB.out ?_)
        | refine stopIn_store 27 (.tmp 4) (.tmp 33) rfl ?_)
      constructor
      refine wpListIn_store_all rfl 27 (.tmp 4) (.tmp 33) rfl rfl rfl (vs := fc) (by rw [HOC.out]; exact agg_offs.2) f2' hone2.out (by rw [HOC.out]; rfl) ?_
      intro w9 d9 k9
      gi_wp2
      have hKz := hK.size
      have hDl := (Array.getElem?_eq_some_iff.1 hD2).1
      have hD3 := (k9.block D hDl (by simp; omega)).trans hD2
      refine ⟨by simp, .inl ⟨_, _, rfl, run_takeDeferred hD3, ?_⟩⟩
      refine ⟨_, results_cell_tmp rfl _ rfl rfl (d9.keep (keep_putObj _ D _) (by simp; omega)) (by rw [HOC.out]; exact agg_offs), by rw [HX.out, HFC.out, HBK.out]; rfl, ?_⟩
      exact ((KW6.trans hK (fun y hy hlt => by simp at hy; omega)).trans k9 (fun y hy hlt => by simp at hy; omega)).trans (keep_putObj _ D _) (fun y hy hlt => by simp at hy; omega)
    case stop => exact fun _ _ _ _ _ _ h _ => h.elim

set_option maxRecDepth 100000 in
set_option maxHeartbeats 2000000 in
theorem find_out (v : ImgV) (x : Img) (edge : Int) (w : World) (hTb : Tab w) (h : ImgAt w v x) (he : edge < 0 ∨ (x.edges.length : Int) ≤ edge) :
    Calls Tryd.prog 23 #[.agg (imgCells v x).toArray, .int .i64 edge] w fun e w' => e = .returned (.tuple #[.agg (iv z16).toArray, .bool false]) ∧ Keep [] w w' := by
  obtain ⟨W0, hW0⟩ : ∃ W0, ((w.alloc (.cells (imgCells v x).toArray 26)).alloc (.cells #[.int .i64 edge] 3)).alloc (.cells (iv z16).toArray 27) = W0 := ⟨_, rfl⟩
  have b0 : Blk W0 w.heap.size 26 (imgCells v x).toArray := by rw [← hW0]; exact ((img_box w v x).alloc _).alloc _
  have b1 : Blk W0 (w.heap.size + 1) 3 #[.int .i64 edge] := by rw [← hW0]; exact (Blk.new1 _ _ _ _).alloc _
  have b2 : Blk W0 (w.heap.size + 2) 27 (iv z16).toArray := by rw [← hW0]; exact Blk.new2 _ _ _ _ _
  have K0 : Keep [] w W0 := by rw [← hW0]; exact (((Keep.refl [] w).alloc _).alloc _).alloc _
  have hz0 : Hid (W0.heap.size = w.heap.size + 3) := by show _ = _; rw [← hW0]; simp
  have HIC : Hid ((imgCells v x).length = 4) := show _ = _ from rfl
  have HCF : ∀ w', Keep [] W0 w' → CellsAt w' w.heap.size 0 (imgCells v x) ∧ w'.cell? ⟨w.heap.size + 1, 0, none⟩ = some (.int .i64 edge) := fun w' hk => ⟨(b0.keep0 hk).cellsAt, by have := (b1.keep0 hk).cell 0; simpa using this⟩
  have HEd := Lib.hid (clsEdge_out v x edge W0 (h.keep0 K0) he)
  have HFa := fun w' hk => Lib.hid (far_any 0 w' (hTb.keep0 hk) (by decide))
  have hf0 : farL 0 16384 = z16 := by decide
  rw [hf0] at HFa
  have HFi := fun w' hk => Lib.hid (fits_out v x edge z16 w' (h.keep0 hk) he rfl)
  obtain ⟨d0, d1⟩ := HCF W0 (Keep.refl _ _)
  have hcI := Lib.hid d0
  have HFL : Hid ((iv z16).length = 16) := show _ = _ from rfl
  have hone : Hid (∀ u ∈ iv z16, u.oneCell' = true) := iv_one _
  have HW : Hid (((w.alloc (.cells (imgCells v x).toArray 26)).alloc (.cells #[.int .i64 edge] 3)).alloc (.cells #[.int .i64 0, .int .i64 0, .int .i64 0, .int .i64 0, .int .i64 0, .int .i64 0, .int .i64 0, .int .i64 0, .int .i64 0, .int .i64 0, .int .i64 0, .int .i64 0, .int .i64 0, .int .i64 0, .int .i64 0, .int .i64 0] 27) = W0) := hW0
  have B2 := Lib.hid b2
  clear hW0 h he hTb d0 b0 b1 b2
  generalize imgCells v x = il at *
  generalize hzc : iv z16 = zc at *
  have HZC : Hid (zc = [.int .i64 0, .int .i64 0, .int .i64 0, .int .i64 0, .int .i64 0, .int .i64 0, .int .i64 0, .int .i64 0, .int .i64 0, .int .i64 0, .int .i64 0, .int .i64 0, .int .i64 0, .int .i64 0, .int .i64 0, .int .i64 0]) := by show _ = _; rw [← hzc]; rfl
  clear hzc
  have hfld := fun w => run_new_field 0 0 0 w
  go_enter Tryd.func23, Tryd.ntmps23
  go_wp2_with (first
    | rw [HW.out]
    | (refine wpList_load_agg rfl 26 (.tmp 2) rfl rfl (cs := il) (by rw [HIC.out]; exact agg_image) hcI.out ?_))
  refine HEd.out.mono ?_
  rintro e w1 ⟨rfl, k1⟩
  clear hcI d1
  go_wp2_with fail
  refine (HFa w1 (K0.then k1)).out.mono ?_
  rintro e w2 ⟨rfl, k2⟩
  go_wp2_with (refine stop_store 27 (.tmp 7) (.tmp 14) rfl ?_)
  constructor
  refine wpList_store_all rfl 27 (.tmp 7) (.tmp 14) rfl rfl rfl (vs := zc) (by rw [HFL.out]; exact agg_offs.2) (Blk.new _ _ _) hone.out ?_ ?_
  · rw [HFL.out]; rfl
  intro w3 e3 k3
  have k23 : Keep [] w2 w3 := ((Keep.refl [] w2).alloc _).trans k3 (fun y hy hlt => by simp at hy; omega)
  have K03 := (k1.then k2).then k23
  obtain ⟨q0, q1⟩ := HCF w3 K03
  have hcI3 := Lib.hid q0
  have hcL3 := Lib.hid e3.cellsAt
  have HFi3 := HFi w3 (K0.then K03)
  clear k1 k2 k3 k23 q0 HFi HFa HEd e3
  go_wp2_with (first
    | (refine wpList_load_agg rfl 26 (.tmp 2) rfl rfl (cs := il) (by rw [HIC.out]; exact agg_image) hcI3.out ?_)
    | (refine wpList_load_agg rfl 27 (.tmp 7) rfl rfl (cs := zc) (by rw [HFL.out]; exact agg_offs) hcL3.out ?_))
  refine HFi3.out.mono ?_
  rintro e w4 ⟨rfl, k4⟩
  have f2 := B2.out.keep0 (K03.then k4)
  have KE := Lib.hid ((K0.then K03).then k4)
  go_wp2_with (refine stop_store 27 (.tmp 4) (.tmp 20) rfl ?_)
  constructor
  rw [HZC.out] at f2 hone HFL ⊢
  refine wpList_store_all rfl 27 (.tmp 4) (.tmp 20) rfl rfl rfl (vs := [.int .i64 0, .int .i64 0, .int .i64 0, .int .i64 0, .int .i64 0, .int .i64 0, .int .i64 0, .int .i64 0, .int .i64 0, .int .i64 0, .int .i64 0, .int .i64 0, .int .i64 0, .int .i64 0, .int .i64 0, .int .i64 0]) agg_offs.2 f2 hone.out rfl ?_
  intro w5 d5 k5
  go_wp2
  refine bodyPost_ret (results_cell_tmp rfl _ rfl rfl d5 agg_offs) rfl ?_
  exact ⟨by rw [HZC.out]; rfl, KE.out.trans k5 (fun y hy hlt => by simp at hy; omega)⟩
end Go.Proofs.YtggjhjbcdnffnaaDoor

namespace Go.Proofs.YtggjhjbcdnffnaaDoor
open Go.RowKit

section
variable {P : Program} {ops : Array Oper} {Q : Exit → Act → World → Prop} {a : Act} {w : World} {K : Act → World → Prop}
variable (i : Nat) {dst : Option Tmp} {op : Op} {tyy : TypeId} {pos : String} {after : Array Edge} {gd : Option (Nat × Bool)}
/-- A call of a closure. -/
theorem op_callv {f : FuncId} {x : Operand} {fr : Array Value} {args : Array Operand} {ats : Array TypeId} {post : Ending → World → Prop} (hi : ops[i]? = some ⟨dst, op, tyy, pos, after, gd⟩) (hw : Region.wanted ⟨dst, op, tyy, pos, after, gd⟩ (yielded ops a.tmps) = true)
    (ho : op = .call { callee := .value x, args := args, argTypes := ats }) (hx : a.eval x = .func (.func f) #[] fr) {vs : Array Value} (hv : args.map a.eval = vs) {fn : Func} (hfn : P.funcs[f]? = some fn) (hnm : (fn.name == "runtime.NumGoroutine") = false) (hbd : fn.body.isNone = false)
    (hc : Calls P f (vs ++ fr) w post) (h : ∀ e w', post e w' → ∃ v, e = .returned v ∧ K (a.put dst v) w') : wpOp P ops Q i K a w := by
  refine wpOp_step hi (fun K' hK => ?_)
  rw [if_pos hw]
  subst hv
  unfold Oper.wp
  have e : (execOp a.eval ⟨dst, op, tyy, pos, after, gd⟩).run P w = .ok (.enter f (args.map a.eval ++ fr)) w := by
    have hf : fn.body ≠ none := by intro h; rw [h] at hbd; cases hbd
    unfold execOp
    simp only [ho, resolve, hx, Sem.run_bind, Sem.run_pure, Result.andThen_ok, invoke]
    simp [go_sem, callFunc, hfn, hf]
    simp at hnm
    simp [hnm]
  rw [e]
  show Calls P f _ w _
  refine hc.mono fun e w' hp => ?_
  obtain ⟨v, rfl, hrest⟩ := h e w' hp
  exact hK _ _ hrest
end

/-- The first k of far ones are n at most. -/
def minL (s : Nat) (n : Int) (k : Nat) : List Int := (List.range 16).map (fun j => if s.testBit j = true then (if j < k then n else 16384) else 0)
theorem minL_get (s : Nat) (n : Int) (k j : Nat) (hj : j < 16) : (minL s n k)[j]? = some (if s.testBit j = true then (if j < k then n else 16384) else 0) := by
  unfold minL
  rw [List.getElem?_map, List.getElem?_range hj]; rfl
theorem minL_len (s : Nat) (n : Int) (k : Nat) : (minL s n k).length = 16 := by simp [minL]
theorem minL_zero (s : Nat) (n : Int) : minL s n 0 = farL s 16384 := by
  unfold minL farL
  apply List.map_congr_left
  intro j _
  simp
theorem minL_all (s : Nat) (n : Int) : minL s n 16 = farL s n := by
  unfold minL farL
  apply List.map_congr_left
  intro j hj
  have := List.mem_range.1 hj
  simp [this]
theorem minL_succ (s : Nat) (n : Int) (k : Nat) (hk : k < 16) : minL s n (k + 1) = (minL s n k).set k (if s.testBit k = true then n else 0) := by
  apply List.ext_getElem?
  intro j
  rw [List.getElem?_set, minL_len]
  rcases Nat.lt_or_ge j 16 with hj | hj
  · rw [minL_get _ _ _ _ hj, minL_get _ _ _ _ hj]
    by_cases e : k = j
    · subst e; simp [hk]
    · rw [if_neg e]
      by_cases h : j < k
      · rw [if_pos h, if_pos (show j < k + 1 by omega)]
      · rw [if_neg h, if_neg (show ¬ j < k + 1 by omega)]
  · rw [List.getElem?_eq_none (by rw [minL_len]; omega), List.getElem?_eq_none (by rw [minL_len]; omega)]
    split
    · omega
    · rfl
set_option maxRecDepth 100000 in
set_option maxHeartbeats 2000000 in
theorem all1_any (s : Nat) (n : Int) (B : Nat) (w : World) (hTb : Tab w) (hs : s < 4294967296) (hn : 0 ≤ n ∧ n ≤ 16384) (hb : Blk w B 31 #[.int .u32 (s : Int)]) :
    Calls Tryd.prog 61 #[.int .i64 n, .pointer (some ⟨B, 0, none⟩)] w fun e w' => e = .returned (.agg (iv (farL s n)).toArray) ∧ Keep [] w w' := by
  obtain ⟨W0, hW0⟩ : ∃ W0, w.alloc (.cells (iv z16).toArray 27) = W0 := ⟨_, rfl⟩
  have b0 : Blk W0 w.heap.size 27 (iv z16).toArray := by rw [← hW0]; exact Blk.new _ _ _
  have K0 : Keep [] w W0 := by rw [← hW0]; exact (Keep.refl [] w).alloc _
  have c0 := (hb.keep0 K0).cell 0
  simp at c0
  have HFa := Lib.hid (far_any s W0 (hTb.keep0 K0) hs)
  have HFL : Hid ((iv (farL s 16384)).length = 16) := by show _ = _; rw [iv_len]; exact farL_len _ _
  have hone : Hid (∀ u ∈ iv (farL s 16384), u.oneCell' = true) := iv_one _
  have HW : Hid (w.alloc (.cells #[.int .i64 0, .int .i64 0, .int .i64 0, .int .i64 0, .int .i64 0, .int .i64 0, .int .i64 0, .int .i64 0, .int .i64 0, .int .i64 0, .int .i64 0, .int .i64 0, .int .i64 0, .int .i64 0, .int .i64 0, .int .i64 0] 27) = W0) := hW0
  have HM0 := Lib.hid (minL_zero s n)
  have HMA := Lib.hid (minL_all s n)
  have B0 := Lib.hid b0
  clear hTb hb hW0 b0
  generalize hfl : farL s 16384 = fl at *
  clear hfl
  go_enter Tryd.func61, Tryd.ntmps61
  go_wp2_with (rw [HW.out])
  refine HFa.out.mono ?_
  rintro e w2 ⟨rfl, k2⟩
  go_wp2_with (refine stop_store 27 (.tmp 4) (.tmp 7) rfl ?_)
  constructor
  refine wpList_store_all rfl 27 (.tmp 4) (.tmp 7) rfl rfl rfl (vs := iv fl) (by rw [HFL.out]; exact agg_offs.2) (Blk.new _ _ _) hone.out ?_ ?_
  · rw [HFL.out]; rfl
  intro w3 e3 k3
  have k23 : Keep [] w2 w3 := ((Keep.refl [] w2).alloc _).trans k3 (fun y hy hlt => by simp at hy; omega)
  have HK3 := Lib.hid (k2.then k23)
  have hz2 : w.heap.size < w2.heap.size := by have h1 := B0.out.lt; have h2 := k2.size; omega
  have HZ := Lib.hid hz2
  have E3 := Lib.hid e3
  clear k2 k3 k23 e3 hz2 c0 HFa
  go_wp2
  go_loopw [8] (fun i wr => ∃ k : Nat, k ≤ 16 ∧ i = .int .i64 k ∧ Blk wr w2.heap.size 27 (iv (minL s n k)).toArray ∧ Keep [w2.heap.size] w3 wr) (fun i _ => 16 - (intOf i).toNat)
  case atStart => exact ⟨0, Nat.zero_le _, rfl, by rw [HM0.out]; exact E3.out, Keep.refl _ _⟩
  case round =>
    obtain ⟨k, hk, rfl, hb, hK⟩ := hrel
    by_cases hlt : k < 16
    · have hsc := minL_succ s n k hlt
      have hc := hb.at_ (j := k) (u := .int .i64 (if s.testBit k = true then 16384 else 0)) (by unfold iv; rw [List.getElem?_map, minL_get _ _ _ _ hlt, show (if k < k then n else (16384 : Int)) = 16384 from if_neg (by omega)]; rfl)
      have hfz := hb.frozen k
      have p0 : (0 : Int) ≤ (k : Int) := by omega
      have p1 : (k : Int) < 16 := by omega
      have p2 : decide ((k : Int) < 16) = true := decide_eq_true p1
      have HB := Lib.hid hb
      have HK := Lib.hid hK
      clear hb hK
      obtain ⟨z, y, hz, hy, hmin⟩ : ∃ z y : Int, (if s.testBit k = true then (16384 : Int) else 0) = z ∧ (if s.testBit k = true then n else 0) = y ∧ ((n < z ∧ y = n) ∨ (z ≤ n ∧ y = z)) := by
        refine ⟨_, _, rfl, rfl, ?_⟩
        split <;> omega
      rw [hz] at hc
      rw [hy] at hsc
      clear hz hy
      rcases hmin with ⟨h1, rfl⟩ | ⟨h1, rfl⟩
      · have q0 : decide (y < z) = true := decide_eq_true h1
        go_wp2
        have bb := HB.out.set_ k (.int .i64 y)
        rw [iv_set, ← hsc] at bb
        have kk := HK.out.setCell (p := ⟨w2.heap.size, k, none⟩) (by simp) (.int .i64 y)
        go_roundw
        case rel => exact ⟨k + 1, by omega, by go_num, bb, kk⟩
        case measure => simp [intOf] <;> omega
      · have q0 : decide (n < y) = false := decide_eq_false (by omega)
        go_wp2
        have bb := HB.out.set_ k (.int .i64 y)
        rw [iv_set, ← hsc] at bb
        have kk := HK.out.setCell (p := ⟨w2.heap.size, k, none⟩) (by simp) (.int .i64 y)
        go_roundw
        case rel => exact ⟨k + 1, by omega, by go_num, bb, kk⟩
        case measure => simp [intOf] <;> omega
    · obtain rfl : k = 16 := by omega
      rw [HMA.out] at hb
      have HFN : Hid ((iv (farL s n)).length = 16) := by show _ = _; rw [iv_len]; exact farL_len _ _
      have hone2 : Hid (∀ u ∈ iv (farL s n), u.oneCell' = true) := iv_one _
      have hcB := Lib.hid hb.cellsAt
      have d0 := (B0.out.keep0 HK3.out).keep hK (by have := HZ.out; simp; omega)
      have HKE : Hid (Keep [] w wr) := (K0.then HK3.out).trans hK (fun y hy hlt => by have := HZ.out; simp at hy; omega)
      generalize hfn : iv (farL s n) = fn at *
      have HFNE := Lib.hid hfn
      clear hfn hK hb
      go_wp2_with (first
        | (refine wpList_load_agg rfl 27 (.tmp 4) rfl rfl (cs := fn) (by rw [HFN.out]; exact agg_offs) hcB.out ?_)
        | refine stop_store 27 (.tmp 3) (.tmp 19) rfl ?_)
      constructor
      refine wpList_store_all rfl 27 (.tmp 3) (.tmp 19) rfl rfl rfl (vs := fn) (by rw [HFN.out]; exact agg_offs.2) d0 hone2.out ?_ ?_
      · rw [HFN.out]; rfl
      intro w9 d9 k9
      go_wp2
      refine bodyPost_ret (results_blk rfl _ rfl d9 (by rw [HFN.out]; exact agg_offs)) rfl ?_
      exact ⟨by rw [HFNE.out], HKE.out.trans k9 (fun y hy hlt => by simp at hy; omega)⟩

/-- The least offset that does for all new tasks. -/
def commonR (x : Img) (k : Nat) : Int := if fitsB x k (farL (clsE x k).new 16384) = true then halve (fun n => fitsB x k (farL (clsE x k).new n)) 16384 0 16384 else 0
set_option maxRecDepth 100000 in
set_option maxHeartbeats 3000000 in
theorem common_any (v : ImgV) (x : Img) (k : Nat) (w : World) (hTb : Tab w) (h : ImgAt w v x) (hE : EdW x k) :
    Calls Tryd.prog 28 #[.agg (imgCells v x).toArray, .int .i64 (k : Int)] w fun e w' => e = .returned (.tuple #[.int .i64 (commonR x k), .bool (findB x k)]) ∧ Keep [] w w' := by
  have b0 := img_box w v x
  obtain ⟨W0, hW0⟩ : ∃ W0, w.alloc (.cells (imgCells v x).toArray 26) = W0 := ⟨_, rfl⟩
  rw [hW0] at b0
  have K0 : Keep [] w W0 := by rw [← hW0]; exact (Keep.refl [] w).alloc _
  have HCF : Hid (∀ w', Keep [] W0 w' → CellsAt w' w.heap.size 0 (imgCells v x)) := fun w' hk => (b0.keep0 hk).cellsAt
  have HIC : Hid ((imgCells v x).length = 4) := show _ = _ from rfl
  have hcok := clsE_ok x k h.ok
  have HEd := Lib.hid (clsEdge_any v x k W0 (h.keep0 K0) hE.lt)
  have HA1 := fun (n : Int) (B : Nat) w' (hn : 0 ≤ n ∧ n ≤ 16384) hk hb => Lib.hid (all1_any (clsE x k).new n B w' (hTb.keep0 (w' := w') hk) hcok.new hn hb)
  have HFi := fun (n : Int) (hn : 0 ≤ n ∧ n ≤ 16384) w' hk => Lib.hid (fits_any v x k (farL (clsE x k).new n) w' (hTb.keep0 (w' := w') hk) (h.keep0 hk) hE (farL_ok _ hn))
  have HBK : Hid (findB x k = fitsB x k (farL (clsE x k).new 16384)) := show _ = _ from rfl
  have HCR : Hid (commonR x k = if fitsB x k (farL (clsE x k).new 16384) = true then halve (fun n => fitsB x k (farL (clsE x k).new n)) (16384 - (0 : Int)).toNat 0 16384 else 0) := show _ = _ from rfl
  have hcls : (clsCells (clsE x k)).toArray = #[.int .u32 ((clsE x k).old : Int), .int .u32 ((clsE x k).new : Int), .int .u32 ((clsE x k).same : Int)] := rfl
  rw [hcls] at HEd
  have HW := Lib.hid hW0
  clear hW0 hcls h hcok hTb b0 hE
  generalize (clsE x k).new = nw at *
  generalize (clsE x k).old = od at *
  generalize (clsE x k).same = sm at *
  have hfld := fun w => run_new_field (od : Int) (nw : Int) (sm : Int) w
  generalize imgCells v x = il at *
  go_enter Tryd.func28, Tryd.ntmps28
  go_wp2_with (first
    | rw [HW.out]
    | (refine wpList_load_agg rfl 26 (.tmp 2) rfl rfl (cs := il) (by rw [HIC.out]; exact agg_image) (HCF.out _ (Keep.refl _ _)) ?_))
  refine HEd.out.mono ?_
  rintro e w1 ⟨rfl, k1⟩
  have b2 : Blk (w1.alloc (.cells #[.int .u32 (nw : Int)] 31)) w1.heap.size 31 #[.int .u32 (nw : Int)] := Blk.new w1 _ _
  have k12 : Keep [] w1 (w1.alloc (.cells #[.int .u32 (nw : Int)] 31)) := (Keep.refl [] w1).alloc _
  obtain ⟨w2, hw2⟩ : ∃ w2, w1.alloc (.cells #[.int .u32 (nw : Int)] 31) = w2 := ⟨_, rfl⟩
  rw [hw2] at b2 k12
  have HW2 := Lib.hid hw2
  have K2 := k1.then k12
  have HCI : ∀ w', Keep [] w2 w' → CellsAt w' w.heap.size 0 il := fun w' hk => HCF.out w' (K2.then hk)
  have HKW := Lib.hid (K0.then K2)
  clear hw2 k1 k12 HEd HW K2
  go_wp2_with (rw [HW2.out])
  refine ap_begin 5 (Keep [] w2) rfl (Keep.refl _ _).drew (fun hS hPan => ?_) (fun _ _ d _ _ h => by cases d <;> exact h)
  refine ap_agg 0 26 (.tmp 2) il rfl (by kernel_rfl) (by kernel_rfl) (by kernel_rfl) (by kernel_rfl) (by rfl) hPan rfl rfl (by rw [HIC.out]; exact agg_image) HCI hS ?_
  (simp only [Act.put, List.setIfInBounds_toArray, List.set_cons_zero, List.set_cons_succ])
  (refine ap_val (v := ?_) 1 rfl (by kernel_rfl) (by kernel_rfl) (by kernel_rfl) (by kernel_rfl) (by rfl) hPan ?_ hS ?_; rotate_left; (intro w' hSw; go_simp; try with_reducible rfl); simp only [Act.put, List.setIfInBounds_toArray, List.set_cons_zero, List.set_cons_succ])
  (refine ap_val (v := ?_) 2 rfl (by kernel_rfl) (by kernel_rfl) (by kernel_rfl) (by kernel_rfl) (by rfl) hPan ?_ hS ?_; rotate_left; (intro w' hSw; go_simp; try with_reducible rfl); simp only [Act.put, List.setIfInBounds_toArray, List.set_cons_zero, List.set_cons_succ])
  refine ap_one 3 (by kernel_rfl) ?_
  refine op_callv (f := 61) (fr := #[.pointer (some ⟨w1.heap.size, 0, none⟩)]) (vs := #[.int .i64 16384]) 3 rfl (by rfl) rfl rfl (by simp only [List.map_toArray, List.map_cons, List.map_nil]; rfl) Tryd.func61 (by kernel_rfl) (by kernel_rfl) (HA1 16384 _ _ (by omega) (HKW.out.then hS) (b2.keep0 hS)).out ?_
  rintro e w3 ⟨rfl, k3⟩
  replace hS := hS.then k3
  refine ⟨_, rfl, fun _ => hS, ?_⟩
  clear k3
  (simp only [Act.put, List.setIfInBounds_toArray, List.set_cons_zero, List.set_cons_succ])
  refine ap_one 4 (by kernel_rfl) ?_
  refine op_call (f := 59) (vs := #[.agg il.toArray, .int .i64 (k : Int), .agg (iv (farL nw 16384)).toArray]) 4 rfl (by rfl) rfl (by simp only [List.map_toArray, List.map_cons, List.map_nil]; rfl) Tryd.func59 (by kernel_rfl) (by kernel_rfl) (HFi 16384 (by omega) _ (HKW.out.then hS)).out ?_
  rintro e w4 ⟨rfl, k4⟩
  replace hS := hS.then k4
  refine ⟨_, rfl, fun _ => hS, ?_⟩
  clear k4
  (simp only [Act.put, List.setIfInBounds_toArray, List.set_cons_zero, List.set_cons_succ])
  cases hfb : fitsB x k (farL nw 16384) with
  | false =>
    have HX : Hid (commonR x k = 0) := by show _ = _; rw [HCR.out, hfb, if_neg (by simp)]
    have HY : Hid (findB x k = false) := by show _ = _; rw [HBK.out, hfb]
    refine ap_one 5 (by kernel_rfl) ?_
    refine op_run (v := .bool true) (w' := w4) 5 rfl (by rfl) (by go_simp) ?_
    refine ⟨fun _ => hS, ap_done (by kernel_rfl) ?_ _⟩
    (simp only [Act.put, List.setIfInBounds_toArray, List.set_cons_zero, List.set_cons_succ])
    have HS := Lib.hid hS
    clear hS hPan
    go_wp2
    go_ret2
    exact ⟨by rw [HX.out, HY.out]; rfl, HKW.out.then HS.out⟩
  | true =>
    have HX : Hid (commonR x k = halve (fun n => fitsB x k (farL nw n)) (16384 - (0 : Int)).toNat 0 16384) := by show _ = _; rw [HCR.out, hfb, if_pos rfl]
    have HY : Hid (findB x k = true) := by show _ = _; rw [HBK.out, hfb]
    refine ap_one 5 (by kernel_rfl) ?_
    refine op_run (v := .bool false) (w' := w4) 5 rfl (by rfl) (by go_simp) ?_
    refine ⟨fun _ => hS, ap_done (by kernel_rfl) ?_ _⟩
    (simp only [Act.put, List.setIfInBounds_toArray, List.set_cons_zero, List.set_cons_succ])
    have HS := Lib.hid hS
    clear hS hPan hfb HCR
    generalize hP : (fun n => fitsB x k (farL nw n)) = P at *
    have HP : Hid (∀ z, fitsB x k (farL nw z) = P z) := fun z => by rw [← hP]
    clear hP
    go_wp2
    go_loopw [8, 9] (fun a b wr => ∃ lo hi : Int, (0 ≤ lo ∧ lo ≤ hi ∧ hi ≤ 16384) ∧ a = .int .i64 lo ∧ b = .int .i64 hi ∧ Hid (commonR x k = halve P (hi - lo).toNat lo hi) ∧ Keep [] w4 wr) (fun a b _ => (intOf b - intOf a).toNat)
    case atStart => exact ⟨0, 16384, by omega, rfl, rfl, HX.out, Keep.refl _ _⟩
    case round =>
      obtain ⟨lo, hi, hbd, rfl, rfl, HR, hK⟩ := hrel
      by_cases hlt : lo < hi
      · have q0 : decide (lo < hi) = true := decide_eq_true hlt
        have hst := halve_step P lo hi hbd.1 hlt
        obtain ⟨m1, m2⟩ := half_mid hbd.1 hlt
        have hwr : IntKind.i64.wrap (lo + hi) = lo + hi := IntWalk.i64_in _ (by omega)
        have hwm : IntKind.i64.wrap ((lo + hi).tdiv 2) = (lo + hi).tdiv 2 := IntWalk.i64_in _ (by omega)
        have hmb : 0 ≤ (lo + hi).tdiv 2 ∧ (lo + hi).tdiv 2 ≤ 16384 := by omega
        generalize hm : (lo + hi).tdiv 2 = m at *
        have HK := Lib.hid hK
        have HKq : Hid (∀ w', Keep [] wr w' → Keep [] w2 w') := fun w' hk => (HS.out.then HK.out).then hk
        have HCq : ∀ w', Keep [] wr w' → CellsAt w' w.heap.size 0 il := fun w' hk => HCI w' (HKq.out w' hk)
        clear hK
        go_wp2
        refine ap_begin 5 (Keep [] wr) rfl (Keep.refl _ _).drew (fun hS hPan => ?_) (fun _ _ d _ _ h => by cases d <;> exact h)
        refine ap_agg 0 26 (.tmp 2) il rfl (by kernel_rfl) (by kernel_rfl) (by kernel_rfl) (by kernel_rfl) (by rfl) hPan rfl rfl (by rw [HIC.out]; exact agg_image) HCq hS ?_
        (simp only [Act.put, List.setIfInBounds_toArray, List.set_cons_zero, List.set_cons_succ])
        (refine ap_val (v := ?_) 1 rfl (by kernel_rfl) (by kernel_rfl) (by kernel_rfl) (by kernel_rfl) (by rfl) hPan ?_ hS ?_; rotate_left; (intro w' hSw; go_simp; try with_reducible rfl); simp only [Act.put, List.setIfInBounds_toArray, List.set_cons_zero, List.set_cons_succ])
        (refine ap_val (v := ?_) 2 rfl (by kernel_rfl) (by kernel_rfl) (by kernel_rfl) (by kernel_rfl) (by rfl) hPan ?_ hS ?_; rotate_left; (intro w' hSw; go_simp; try with_reducible rfl); simp only [Act.put, List.setIfInBounds_toArray, List.set_cons_zero, List.set_cons_succ])
        (refine ap_val (v := ?_) 3 rfl (by kernel_rfl) (by kernel_rfl) (by kernel_rfl) (by kernel_rfl) (by rfl) hPan ?_ hS ?_; rotate_left; (intro w' hSw; go_simp; try with_reducible rfl); simp only [Act.put, List.setIfInBounds_toArray, List.set_cons_zero, List.set_cons_succ])
        refine ap_one 4 (by kernel_rfl) ?_
        refine op_callv (f := 61) (fr := #[.pointer (some ⟨w1.heap.size, 0, none⟩)]) (vs := #[.int .i64 m]) 4 rfl (by rfl) rfl rfl (by simp only [List.map_toArray, List.map_cons, List.map_nil]; rfl) Tryd.func61 (by kernel_rfl) (by kernel_rfl) (HA1 m _ _ hmb (HKW.out.then (HKq.out _ hS)) (b2.keep0 (HKq.out _ hS))).out ?_
        rintro e w5 ⟨rfl, k5⟩
        replace hS := hS.then k5
        refine ⟨_, rfl, fun _ => hS, ?_⟩
        clear k5
        (simp only [Act.put, List.setIfInBounds_toArray, List.set_cons_zero, List.set_cons_succ])
        refine ap_one 5 (by kernel_rfl) ?_
        refine op_call (f := 59) (vs := #[.agg il.toArray, .int .i64 (k : Int), .agg (iv (farL nw m)).toArray]) 5 rfl (by rfl) rfl (by simp only [List.map_toArray, List.map_cons, List.map_nil]; rfl) Tryd.func59 (by kernel_rfl) (by kernel_rfl) (HFi m hmb _ (HKW.out.then (HKq.out _ hS))).out ?_
        rintro e w6 ⟨rfl, k6⟩
        replace hS := hS.then k6
        refine ⟨_, rfl, fun _ => hS, ap_done (by kernel_rfl) ?_ _⟩
        clear k6
        (simp only [Act.put, List.setIfInBounds_toArray, List.set_cons_zero, List.set_cons_succ])
        rw [HP.out]
        have HKE := Lib.hid (HK.out.then hS)
        clear hS hPan
        cases hp : P m with
        | true =>
          have HX2 : Hid (commonR x k = halve P (m - lo).toNat lo m) := by show _ = _; rw [HR.out, hst, hp, if_pos rfl]
          clear hst
          go_wp2
          go_roundw
          case rel => exact ⟨lo, m, by omega, rfl, rfl, HX2, HKE.out⟩
          case measure => simp [intOf] <;> omega
        | false =>
          have HX2 : Hid (commonR x k = halve P (hi - (m + 1)).toNat (m + 1) hi) := by show _ = _; rw [HR.out, hst, hp, if_neg (by simp)]
          have hw1 : IntKind.i64.wrap (m + 1) = m + 1 := IntWalk.i64_in _ (by omega)
          clear hst
          go_wp2
          go_roundw
          case rel => exact ⟨m + 1, hi, by omega, rfl, rfl, HX2, HKE.out⟩
          case measure => simp [intOf] <;> omega
      · have q0 : decide (lo < hi) = false := decide_eq_false hlt
        have HX2 : Hid (commonR x k = hi) := by show _ = _; rw [HR.out, halve_end _ _ _ _ (by omega)]
        have HKE := Lib.hid (HS.out.then hK)
        clear hK
        go_wp2
        go_ret2
        exact ⟨by rw [HX2.out, HY.out]; rfl, HKW.out.then HKE.out⟩
end Go.Proofs.YtggjhjbcdnffnaaDoor
