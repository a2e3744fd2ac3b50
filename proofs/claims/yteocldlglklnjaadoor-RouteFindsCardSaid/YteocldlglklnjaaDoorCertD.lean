/- How long the change along an edge takes, by its protocol (window's Longest, Edge). Condition: the table of math/bits lies where the program's text lays it; an image that may be. -/
import Derived.Test.YteocldlglklnjaaDoorWinF
import Derived.Test.YteocldlglklnjaaDoorEdgeW
import Derived.Test.YteocldlglklnjaaDoorRangeB
import Derived.Test.YteocldlglklnjaaDoorCwRight
namespace Go.Proofs.YteocldlglklnjaaDoor
open Go.RowKit
attribute [local go_sem] Oper.semAt_some

def Cls.from_ (c : Cls) : Nat := c.old ||| c.same
theorem Cls.Ok.from_ {c : Cls} (h : c.Ok) : c.from_ < 4294967296 := Nat.or_lt_two_pow (n := 32) h.old h.same
set_option maxRecDepth 100000 in
theorem cfrom_any (c : Cls) (w : World) (h : c.Ok) : Calls Tryd.prog 76 #[.agg (clsCells c).toArray] w fun e w' => e = .returned (.int .u32 (c.from_ : Int)) ∧ Keep [] w w' := by
  have K0 := (Keep.refl [] w).alloc (.cells (clsCells c).toArray 137)
  have hb := Blk.new w 137 (clsCells c).toArray
  have h1 := u32_or_nat c.old c.same h.old h.same
  have HB : Hid (bits .or .u32 (c.old : Int) (c.same : Int) = (c.from_ : Int)) := by show _ = _; rw [h1]; rfl
  have c1 : (w.alloc (.cells (clsCells c).toArray 137)).cell? ⟨w.heap.size, 0, none⟩ = some (.int .u32 (c.old : Int)) := by rw [hb.cell]; rfl
  have c2 : (w.alloc (.cells (clsCells c).toArray 137)).cell? ⟨w.heap.size, 2, none⟩ = some (.int .u32 (c.same : Int)) := by rw [hb.cell]; rfl
  clear hb h1
  generalize (clsCells c).toArray = cs at *
  go_enter Tryd.func76, Tryd.ntmps76
  go_wp2
  go_ret
  exact ⟨congrArg (fun n => Ending.returned (.int .u32 n)) HB.out, K0⟩

/-- The greatest period of a row of tasks. -/
def longStep (x : Img) (n : Int) (i : Nat) : Int := match x.tasks[i]? with | some t => max n t.per | none => n
def longW (x : Img) (is : List Nat) : Int := is.foldl (longStep x) 0
theorem longW_snoc (x : Img) (is : List Nat) (i : Nat) : longW x (is ++ [i]) = longStep x (longW x is) i := by
  unfold longW
  rw [List.foldl_append]; rfl
set_option maxRecDepth 100000 in
set_option maxHeartbeats 2000000 in
theorem longest_any (v : ImgV) (x : Img) (s : Nat) (w : World) (hTb : Tab w) (h : ImgAt w v x) (hs : s < 4294967296) :
    Calls Tryd.prog 77 #[.agg (imgCells v x).toArray, .int .u32 (s : Int)] w fun e w' => e = .returned (.int .i64 (longW x (bitsL s))) ∧ Keep [] w w' := by
  have hl := h.lt
  unfold maxLen at hl
  rw [← callsIn_wide (n := 9)]
  refine callsIn_of_wp_marks Tryd.func77 rfl trivial ?_ rfl
  simp only [Tryd.ntmps77, List.size_toArray, List.length_cons, List.length_nil, Nat.reduceAdd, Nat.reduceSub, Array.replicate_succ, Array.replicate_zero, List.push_toArray, List.append_toArray, List.nil_append, List.cons_append]
  obtain ⟨W1, hW1⟩ : ∃ W1, (w.alloc (.cells (imgCells v x).toArray 26)).alloc (.cells #[.int .i64 0] 3) = W1 := ⟨_, rfl⟩
  have b0 : Blk W1 w.heap.size 26 (imgCells v x).toArray := by rw [← hW1]; exact (img_box w v x).alloc _
  have b1 : Blk W1 (w.heap.size + 1) 3 #[.int .i64 0] := by rw [← hW1]; exact Blk.new1 _ _ _ _
  have K1 : Keep [] w W1 := by rw [← hW1]; exact ((Keep.refl [] w).alloc _).alloc _
  have hz1 : W1.heap.size = w.heap.size + 2 := by rw [← hW1]; simp
  have c1 := b1.cell 0
  have f1 := b1.frozen 0
  simp at c1
  have b2 := b1.set_ 0 (.int .i64 0)
  have K2 : Keep [] w (W1.setCell ⟨w.heap.size + 1, 0, none⟩ (.int .i64 0)) := K1.trans (keep_set _ _ _ _) (fun y hy hlt => by simp at hy; omega)
  have b02 := b0.keep (keep_set W1 (w.heap.size + 1) 0 (.int .i64 0)) (by simp)
  obtain ⟨W2, hW2⟩ : ∃ W2, W1.setCell ⟨w.heap.size + 1, 0, none⟩ (.int .i64 0) = W2 := ⟨_, rfl⟩
  have hz2 : W2.heap.size = w.heap.size + 2 := by rw [← hW2]; simpa using hz1
  rw [hW2] at b2 K2 b02
  have b2 : Blk W2 (w.heap.size + 1) 3 #[.int .i64 0] := b2
  have HW := Lib.hid hW1
  have HWW := Lib.hid hW2
  have HI := Lib.hid h
  have hT2 := hTb.keep0 K2
  have hT0 := hTb.1
  have HL := Lib.hid hl
  clear hW1 hW2 b0 b1 K1 h hTb hl
  have hil1 : (imgCells v x)[1]? = some (.slice v.ta x.tasks.length v.tc) := rfl
  have HI1 := Lib.hid hil1
  have HZ2 := Lib.hid hz2
  clear hil1 hz2 hz1
  generalize imgCells v x = il at *
  gi_wp2_with (first
    | rw [HW.out]
    | rw [HWW.out]
    | (refine ⟨trivial, ?_⟩; gi_at_call 47; refine (callsIn_wide.2 (maskAll_any s _)).mono ?_; rintro e w6 ⟨rfl, hw6⟩))
  have k26 : Keep [] W2 w6 := by rw [← hw6]; exact (Keep.refl _ W2).alloc _
  have d6 : Blk w6 W2.heap.size 50 #[.int .u32 (s : Int)] := by rw [← hw6]; exact Blk.new _ _ _
  have hz6 : w6.heap.size = W2.heap.size + 1 := by rw [← hw6]; simp
  have hss := maskAll1_seq 8 s W2.heap.size w6 (by omega) d6 hs (hT2.keep0 k26)
  have K6 := K2.then k26
  replace b2 := b2.keep0 k26
  replace b02 := b02.keep0 k26
  clear hw6 HW HWW k26 hT2 c1 f1
  refine wpIn_rangeT (F := Fence.wide) (n := 9) (Lo := fun _ _ => False) (ps := #[9]) rfl (by omega) (gf := 66) (lb := #[.pointer (some ⟨W2.heap.size, 0, none⟩)]) rfl trivial (enters_of Tryd.func66 (by kernel_rfl) rfl)
    (hss.toT _) Same.trans (fun W _ o' _ _ => same_putO (by have hz2 := HZ2.out; simp; omega) o') (Below.refl _ _) (fun _ => rfl)
    (fun pre W' => Blk W' (w.heap.size + 1) 3 #[.int .i64 (longW x pre)] ∧ Keep [w.heap.size + 1] w6 W')
    (fun _ _ _ => False)
    ?hI (fun _ _ _ _ _ hs _ _ => hs) ⟨b2, Keep.refl _ _⟩
    (fun i => { tmps := #[.agg il.toArray, .int .u32 (s : Int), .pointer (some ⟨w.heap.size, 0, none⟩), undef, .int .i64 0, .pointer (some ⟨w.heap.size + 1, 0, none⟩), .int .i64 (i : Int), .int .u32 (s : Int), .func (.func 66) #[] #[.pointer (some ⟨W2.heap.size, 0, none⟩)], .int .i64 (i : Int),
      undef, undef, undef, undef, undef, undef, undef, undef, undef, undef, undef, undef, undef, undef], defers := [] }) ?assign ?body ?done ?stop
  case hI => exact OwnFrom.toT (OwnFrom.and (blk_own _ _ _) (keep_own (Nat.le_refl _)))
  case assign =>
    intro l i W' K hK
    simp only [encN]
    gi_wp2
    exact hK
  case body =>
    rintro l pre i Wb ⟨hb, hK⟩ hpre
    have hKz := hK.size
    have KWb : Keep [] w Wb := K6.trans hK (fun y hy hlt => by simp at hy; omega)
    have e0 := b02.keep hK (by simp)
    have c1 : Wb.cell? ⟨w.heap.size, 1, none⟩ = some (.slice v.ta x.tasks.length v.tc) := e0.at_ HI1.out
    have hsn := longW_snoc x pre i
    have hb0 := hb.cell 0
    have hf0 := hb.frozen 0
    simp at hb0
    have hl := HL.out
    by_cases hi : i < x.tasks.length
    · obtain ⟨b, o, hA, hbw, hcs⟩ := HI.out.task (by omega)
      have hp := ((hcs i hi).keep0 KWb hbw) 0 (.int .i64 x.tasks[i].per) rfl
      rw [Nat.add_zero] at hp
      rw [hA] at c1
      have hst : longStep x (longW x pre) i = max (longW x pre) x.tasks[i].per := by unfold longStep; rw [List.getElem?_eq_getElem hi]
      rw [hst] at hsn
      have p0 : (0 : Int) ≤ (i : Int) := by omega
      have p1 : (i : Int) < (x.tasks.length : Int) := by omega
      have p2 : decide ((i : Int) < (x.tasks.length : Int)) = true := decide_eq_true p1
      have p3 : decide (i < x.tasks.length) = true := decide_eq_true hi
      have HB := Lib.hid hb
      have HSN := Lib.hid hsn
      clear hcs hst hb hsn
      generalize longW x pre = z0 at *
      generalize x.tasks[i].per = z1 at *
      have hF : ∀ w', Keep [] Wb w' → w'.cell? ⟨w.heap.size + 1, 0, none⟩ = some (.int .i64 z0) ∧ w'.cell? ⟨w.heap.size, 1, none⟩ = some (.slice (some ⟨b, o, none⟩) x.tasks.length v.tc) ∧ w'.cell? ⟨b, o + i * 11, none⟩ = some (.int .i64 z1) := fun w' hw =>
        ⟨(hw.cell (p := ⟨w.heap.size + 1, 0, none⟩) HB.out.lt (by simp)).trans hb0, (hw.cell (p := ⟨w.heap.size, 1, none⟩) (World.block_lt_of_cell? _ _ c1) (by simp)).trans c1, (hw.cell (p := ⟨b, o + i * 11, none⟩) (World.block_lt_of_cell? _ _ hp) (by simp)).trans hp⟩
      gi_wp2
      refine ap_start 8 (Keep [] Wb) (open_round _) rfl rfl (Keep.refl _ _).drew (fun hS hPan => ?_) (fun _ _ _ _ _ h => h)
      (refine ap_val (v := ?_) 0 rfl (by kernel_rfl) (by kernel_rfl) (by kernel_rfl) (by kernel_rfl) (by rfl) hPan ?_ hS ?_; rotate_left; (intro w' hSw; obtain ⟨g1,g2,g3⟩ := hF w' hSw; go_simp; try with_reducible rfl); simp only [Act.put, List.setIfInBounds_toArray, List.set_cons_zero, List.set_cons_succ])
      (refine ap_val (v := ?_) 1 rfl (by kernel_rfl) (by kernel_rfl) (by kernel_rfl) (by kernel_rfl) (by rfl) hPan ?_ hS ?_; rotate_left; (intro w' hSw; obtain ⟨g1,g2,g3⟩ := hF w' hSw; go_simp; try with_reducible rfl); simp only [Act.put, List.setIfInBounds_toArray, List.set_cons_zero, List.set_cons_succ])
      (refine ap_val (v := ?_) 2 rfl (by kernel_rfl) (by kernel_rfl) (by kernel_rfl) (by kernel_rfl) (by rfl) hPan ?_ hS ?_; rotate_left; (intro w' hSw; obtain ⟨g1,g2,g3⟩ := hF w' hSw; go_simp; try with_reducible rfl); simp only [Act.put, List.setIfInBounds_toArray, List.set_cons_zero, List.set_cons_succ])
      (refine ap_val (v := ?_) 3 rfl (by kernel_rfl) (by kernel_rfl) (by kernel_rfl) (by kernel_rfl) (by rfl) hPan ?_ hS ?_; rotate_left; (intro w' hSw; obtain ⟨g1,g2,g3⟩ := hF w' hSw; go_simp; try with_reducible rfl); simp only [Act.put, List.setIfInBounds_toArray, List.set_cons_zero, List.set_cons_succ])
      (refine ap_val (v := ?_) 4 rfl (by kernel_rfl) (by kernel_rfl) (by kernel_rfl) (by kernel_rfl) (by rfl) hPan ?_ hS ?_; rotate_left; (intro w' hSw; obtain ⟨g1,g2,g3⟩ := hF w' hSw; go_simp; try with_reducible rfl); simp only [Act.put, List.setIfInBounds_toArray, List.set_cons_zero, List.set_cons_succ])
      (refine ap_val (v := ?_) 5 rfl (by kernel_rfl) (by kernel_rfl) (by kernel_rfl) (by kernel_rfl) (by rfl) hPan ?_ hS ?_; rotate_left; (intro w' hSw; obtain ⟨g1,g2,g3⟩ := hF w' hSw; go_simp; try with_reducible rfl); simp only [Act.put, List.setIfInBounds_toArray, List.set_cons_zero, List.set_cons_succ])
      (refine ap_val (v := ?_) 6 rfl (by kernel_rfl) (by kernel_rfl) (by kernel_rfl) (by kernel_rfl) (by rfl) hPan ?_ hS ?_; rotate_left; (intro w' hSw; obtain ⟨g1,g2,g3⟩ := hF w' hSw; go_simp; try with_reducible rfl); simp only [Act.put, List.setIfInBounds_toArray, List.set_cons_zero, List.set_cons_succ])
      refine ap_val (v := .int .i64 (max z0 z1)) 7 rfl (by kernel_rfl) (by kernel_rfl) (by kernel_rfl) (by kernel_rfl) (by rfl) hPan (fun w' _ => run_max rfl rfl) hS ?_
      (simp only [Act.put, List.setIfInBounds_toArray, List.set_cons_zero, List.set_cons_succ])
      refine ap_one 8 (by kernel_rfl) ?_
      refine op_store1 (v := .int .i64 (max z0 z1)) 8 rfl (by rfl) rfl rfl rfl (by kernel_rfl) rfl rfl hb0 hf0 ?_
      refine ⟨fun h => (by cases h), ap_done (by kernel_rfl) ?_ _⟩
      rw [noOut_normal]
      (simp only [Act.put])
      gi_wp2
      have hz2 := HZ2.out
      have k1 := (Keep.refl [w.heap.size + 1] Wb).drew
      have kA : Keep [w.heap.size + 1] Wb (Wb.drew.setCell ⟨w.heap.size + 1, 0, none⟩ (.int .i64 (max z0 z1))) := k1.setCell (by simp) _
      refine ⟨kA.from (fun y hy => .inl (by simp at hy; omega)), Same.keep kA (fun y hy => ⟨?_, ?_⟩), ?_, hK.trans kA (fun y hy _ => hy)⟩
      · simp only [List.mem_cons, List.not_mem_nil, or_false] at hy
        rcases hy with rfl | rfl <;> omega
      · simp only [List.mem_cons, List.not_mem_nil, or_false] at hy ⊢
        rcases hy with rfl | rfl <;> omega
      · rw [HSN.out]
        exact HB.out.drew.set_ 0 _
    · have hst : longStep x (longW x pre) i = longW x pre := by unfold longStep; rw [List.getElem?_eq_none (by omega)]
      rw [hst] at hsn
      have p2 : decide ((i : Int) < (x.tasks.length : Int)) = false := decide_eq_false (by omega)
      have p3 : decide (i < x.tasks.length) = false := decide_eq_false hi
      have HSN := Lib.hid hsn
      clear hst hsn
      gi_wp2
      exact ⟨KeepsFrom.refl _ _, Same.refl _ _, by rw [HSN.out]; exact hb, hK⟩
  case done =>
    rintro D Wd hD ⟨hb, hK⟩ hD2
    have hc := hb.cell 0
    simp at hc
    gi_wp2
    refine ⟨by simp, .inl ⟨_, _, rfl, run_takeDeferred hD2, ?_⟩⟩
    refine ⟨_, by simp [results, Tryd.results77, go_sem], rfl, ?_⟩
    have hz2 := HZ2.out
    exact (K6.trans hK (fun y hy hlt => by simp at hy; omega)).trans (keep_putObj _ D _) (fun y hy hlt => by simp at hy; omega)
  case stop => exact fun _ _ _ _ _ _ h _ => h.elim

/-- How long the change along an edge takes; is it known? -/
def edgeM (x : Img) (k : Nat) : (Int × Int) × Bool := match x.edges[k]? with
  | none => ((0, 0), false)
  | some e => if e.prot = 1 then (((busyM x (clsE x k).from_).getD 0, 0), (busyM x (clsE x k).from_).isSome)
    else if e.prot = 2 then ((longW x (bitsL (clsE x k).both), 0), true)
    else ((spanM x (clsE x k) (tabE x k) e.offs).getD (0, 0), (spanM x (clsE x k) (tabE x k) e.offs).isSome)
def edgeRes2 (r : (Int × Int) × Bool) : Value := .tuple #[.agg #[.int .i64 r.1.1, .int .i64 r.1.2], .bool r.2]
set_option maxRecDepth 100000 in
set_option maxHeartbeats 3000000 in
theorem wedge_any (v : ImgV) (x : Img) (k : Nat) (w : World) (hTb : Tab w) (h : ImgAt w v x) (hE : EdW x k) (hlt : k < x.edges.length) (hp : 1 ≤ x.edges[k].prot ∧ x.edges[k].prot ≤ 3) (hO : OffOk x.edges[k].offs) :
    Calls Tryd.prog 51 #[.agg (imgCells v x).toArray, .int .i64 (k : Int)] w fun e w' => e = .returned (edgeRes2 (edgeM x k)) ∧ Keep [] w w' := by
  have hl := h.le
  unfold maxLen at hl
  obtain ⟨W0, hW0⟩ : ∃ W0, (w.alloc (.cells (imgCells v x).toArray 26)).alloc (.cells #[.int .i64 0, .int .i64 0] 47) = W0 := ⟨_, rfl⟩
  have b0 : Blk W0 w.heap.size 26 (imgCells v x).toArray := by rw [← hW0]; exact (img_box w v x).alloc _
  have b1 : Blk W0 (w.heap.size + 1) 47 #[.int .i64 0, .int .i64 0] := by rw [← hW0]; exact Blk.new1 _ _ _ _
  have K0 : Keep [] w W0 := by rw [← hW0]; exact ((Keep.refl _ w).alloc _).alloc _
  have c3 : W0.cell? ⟨w.heap.size, 3, none⟩ = some (.slice v.ea x.edges.length v.ec) := by rw [b0.cell]; rfl
  obtain ⟨b, o, hA, hbw, hcs⟩ := h.edge (by omega)
  have hct := Lib.hid ((hcs k hlt).keep0 K0 hbw)
  rw [hA] at c3
  have HEL : Hid ((edgCells x.edges[k]).length = 23) := edgCells_len (h.ok.offs _ (List.getElem_mem hlt)) (h.ok.mp _ (List.getElem_mem hlt))
  have HEO : Hid (∀ u ∈ edgCells x.edges[k], u.oneCell' = true) := iv_one _
  have HG : Hid ((edgCells x.edges[k])[2]? = some (.int .i64 x.edges[k].prot)) := show _ = _ from rfl
  have HGO : Hid (∀ w' b, CellsAt w' b 0 (edgCells x.edges[k]) → CellsAt w' b 3 (iv x.edges[k].offs)) := fun w' b hc => cells_mid (A := iv [x.edges[k].frm, x.edges[k].to, x.edges[k].prot]) (C := iv x.edges[k].mp) hc (by unfold edgCells edgInts iv; simp) rfl
  have HOC : Hid ((iv x.edges[k].offs).length = 16) := by show _ = _; rw [iv_len]; exact hO.1
  have HIC : Hid ((imgCells v x).length = 4) := show _ = _ from rfl
  have hcok := clsE_ok x k h.ok
  have HCF : Hid (∀ w', Keep [] W0 w' → CellsAt w' w.heap.size 0 (imgCells v x)) := fun w' hk => (b0.keep0 hk).cellsAt
  have HEd := fun w' hk => Lib.hid (clsEdge_any v x k w' (h.keep0 (w' := w') hk) hlt)
  have HFr := fun w' => Lib.hid (cfrom_any (clsE x k) w' hcok)
  have HBo := fun w' => Lib.hid (both_any (clsE x k) w' hcok)
  have HBu := fun w' hk => Lib.hid (busy_any v x (clsE x k).from_ w' (hTb.keep0 hk) (h.keep0 hk) hcok.from_)
  have HLo := fun w' hk => Lib.hid (longest_any v x (clsE x k).both w' (hTb.keep0 hk) (h.keep0 hk) hcok.both)
  have HNe := fun w' hk => Lib.hid (new_in v x k x.edges[k].offs w' (hTb.keep0 (w' := w') hk) (h.keep0 hk) hlt hO.1)
  have HSp := fun w' hk => Lib.hid (span_any v x (clsE x k) (tabE x k) x.edges[k].offs w' (hTb.keep0 (w' := w') hk) (h.keep0 hk) hcok (tabE_len x k) hO hE.small hE.both hE.to_)
  have HSL : Hid ((shCells v x (clsE x k) (tabE x k) x.edges[k].offs).length = 31) := shCells_len v x _ (tabE_len x k) hO.1
  have hone : Hid (∀ u ∈ shCells v x (clsE x k) (tabE x k) x.edges[k].offs, u.oneCell' = true) := shCells_one _ _ _ _ _
  have HM : Hid (edgeM x k = if x.edges[k].prot = 1 then (((busyM x (clsE x k).from_).getD 0, 0), (busyM x (clsE x k).from_).isSome)
    else if x.edges[k].prot = 2 then ((longW x (bitsL (clsE x k).both), 0), true)
    else ((spanM x (clsE x k) (tabE x k) x.edges[k].offs).getD (0, 0), (spanM x (clsE x k) (tabE x k) x.edges[k].offs).isSome)) := by
    show _ = _
    unfold edgeM
    rw [List.getElem?_eq_getElem hlt]
  have q0 : decide ((k : Int) < 0) = false := decide_eq_false (by omega)
  have q1 : decide ((x.edges.length : Int) ≤ (k : Int)) = false := decide_eq_false (by omega)
  have q1n : decide (x.edges.length ≤ k) = false := decide_eq_false (by omega)
  have q2 : (0 : Int) ≤ (k : Int) := by omega
  have q3 : (k : Int) < (x.edges.length : Int) := by omega
  have HW := Lib.hid hW0
  have B1 := Lib.hid b1
  clear hW0 b0 b1 hcs h hTb hO hcok hE
  generalize busyM x (clsE x k).from_ = bm at *
  generalize longW x (bitsL (clsE x k).both) = lw at *
  generalize spanM x (clsE x k) (tabE x k) x.edges[k].offs = sp at *
  generalize shCells v x (clsE x k) (tabE x k) x.edges[k].offs = sc at *
  generalize hcl : (clsE x k) = ce at *
  have HCL3 : Hid ((clsCells ce).length = 3) := show _ = _ from rfl
  have honeC : Hid (∀ u ∈ clsCells ce, u.oneCell' = true) := by intro u hu; simp only [clsCells, List.mem_cons, List.not_mem_nil, or_false] at hu; rcases hu with rfl | rfl | rfl <;> rfl
  clear hcl
  generalize edgCells x.edges[k] = ec at *
  generalize x.edges[k].prot = pr at *
  generalize iv x.edges[k].offs = oc at *
  generalize imgCells v x = il at *
  generalize clsCells ce = cc at *
  generalize ce.from_ = fr at *
  generalize ce.both = bo at *
  have hpr : pr = 1 ∨ pr = 2 ∨ pr = 3 := by omega
  go_enter Tryd.func51, Tryd.ntmps51
  go_wp2_with (first
    | rw [HW.out]
    | (refine wpList_load_agg rfl 45 (.tmp 25) rfl rfl (cs := ec) (by rw [HEL.out]; exact agg_edge23) hct.out ?_)
    | refine stop_store 45 (.tmp 6) (.tmp 26) rfl ?_)
  constructor
  refine wpList_store_all rfl 45 (.tmp 6) (.tmp 26) rfl rfl rfl (vs := ec) (by rw [HEL.out]; exact agg_edge23.2) (Blk.new _ _ _) HEO.out ?_ ?_
  · rw [HEL.out]; rfl
  intro w2 d2 k2
  have K2 := Lib.hid (((Keep.refl [] W0).alloc _).trans k2 (fun y hy hlt => by simp at hy; omega) : Keep [] W0 w2)
  have D2 := Lib.hid d2
  have hcI2 := Lib.hid (HCF.out w2 K2.out)
  clear k2 d2 q0 q1 q1n c3
  go_wp2_with (refine wpList_load_agg rfl 26 (.tmp 2) rfl rfl (cs := il) (by rw [HIC.out]; exact agg_image) hcI2.out ?_)
  refine (HEd w2 (K0.then K2.out)).out.mono ?_
  rintro e w3 ⟨rfl, k3⟩
  go_wp2_with (refine stop_store 137 (.tmp 7) (.tmp 29) rfl ?_)
  constructor
  refine wpList_store_all rfl 137 (.tmp 7) (.tmp 29) rfl rfl rfl (vs := cc) (by rw [HCL3.out]; exact agg_cls.2) (Blk.new _ _ _) honeC.out ?_ ?_
  · rw [HCL3.out]; rfl
  intro w4 d4 k4
  have k34 : Keep [] w3 w4 := ((Keep.refl [] w3).alloc _).trans k4 (fun y hy hlt => by simp at hy; omega)
  have K4 := Lib.hid (K2.out.then (k3.then k34))
  have d24 := D2.out.keep0 (k3.then k34)
  have cpr := d24.at_ HG.out
  have HCO := Lib.hid (HGO.out w4 _ d24.cellsAt)
  have D4 := Lib.hid d4
  have HCI4 : ∀ w', Keep [] w4 w' → CellsAt w' w.heap.size 0 il := fun w' hk => HCF.out w' (K4.out.then hk)
  have HCC4 : ∀ w', Keep [] w4 w' → CellsAt w' w3.heap.size 0 cc := fun w' hk => (D4.out.keep0 hk).cellsAt
  have E1 := Lib.hid (B1.out.keep0 K4.out)
  have KW4 := Lib.hid (K0.then K4.out)
  clear k3 k34 k4 d4 hcI2 HEd D2 d24 hct
  rcases hpr with rfl | rfl | rfl
  · have HX : Hid (edgeRes2 (edgeM x k) = .tuple #[.agg #[.int .i64 (bm.getD 0), .int .i64 0], .bool bm.isSome]) := by show _ = _; rw [HM.out, if_pos rfl]; rfl
    go_wp2
    refine ap_begin 8 (Keep [] w4) rfl (Keep.refl _ _).drew (fun hS hPan => ?_) (fun _ _ d _ _ h => by cases d <;> exact h)
    refine ap_agg 0 26 (.tmp 2) il rfl (by kernel_rfl) (by kernel_rfl) (by kernel_rfl) (by kernel_rfl) (by rfl) hPan rfl rfl (by rw [HIC.out]; exact agg_image) HCI4 hS ?_
    (simp only [Act.put, List.setIfInBounds_toArray, List.set_cons_zero, List.set_cons_succ])
    refine ap_agg 1 137 (.tmp 7) cc rfl (by kernel_rfl) (by kernel_rfl) (by kernel_rfl) (by kernel_rfl) (by rfl) hPan rfl rfl (by rw [HCL3.out]; exact agg_cls) HCC4 hS ?_
    (simp only [Act.put, List.setIfInBounds_toArray, List.set_cons_zero, List.set_cons_succ])
    refine ap_one 2 (by kernel_rfl) ?_
    refine op_call (f := 76) 2 rfl (by rfl) rfl (by simp only [List.map_toArray, List.map_cons, List.map_nil]; rfl) Tryd.func76 (by kernel_rfl) (by kernel_rfl) (HFr _).out ?_
    rintro e w5 ⟨rfl, k5⟩
    replace hS := hS.then k5
    refine ⟨_, rfl, fun _ => hS, ?_⟩
    clear k5
    (simp only [Act.put, List.setIfInBounds_toArray, List.set_cons_zero, List.set_cons_succ])
    refine ap_one 3 (by kernel_rfl) ?_
    refine op_call (f := 75) 3 rfl (by rfl) rfl (by simp only [List.map_toArray, List.map_cons, List.map_nil]; rfl) Tryd.func75 (by kernel_rfl) (by kernel_rfl) (HBu _ (KW4.out.then hS)).out ?_
    rintro e w6 ⟨rfl, k6⟩
    replace hS := hS.then k6
    refine ⟨_, rfl, fun _ => hS, ?_⟩
    clear k6
    rw [numRes_eq]
    generalize bm.getD 0 = bg at *
    generalize bm.isSome = bs at *
    (simp only [Act.put, List.setIfInBounds_toArray, List.set_cons_zero, List.set_cons_succ])
    (refine ap_val (v := ?_) 4 rfl (by kernel_rfl) (by kernel_rfl) (by kernel_rfl) (by kernel_rfl) (by rfl) hPan ?_ hS ?_; rotate_left; (intro w' hSw; go_simp; try with_reducible rfl); simp only [Act.put, List.setIfInBounds_toArray, List.set_cons_zero, List.set_cons_succ])
    (refine ap_val (v := ?_) 5 rfl (by kernel_rfl) (by kernel_rfl) (by kernel_rfl) (by kernel_rfl) (by rfl) hPan ?_ hS ?_; rotate_left; (intro w' hSw; go_simp; try with_reducible rfl); simp only [Act.put, List.setIfInBounds_toArray, List.set_cons_zero, List.set_cons_succ])
    (refine ap_val (v := ?_) 6 rfl (by kernel_rfl) (by kernel_rfl) (by kernel_rfl) (by kernel_rfl) (by rfl) hPan ?_ hS ?_; rotate_left; (intro w' hSw; go_simp; try with_reducible rfl); simp only [Act.put, List.setIfInBounds_toArray, List.set_cons_zero, List.set_cons_succ])
    (refine ap_val (v := ?_) 7 rfl (by kernel_rfl) (by kernel_rfl) (by kernel_rfl) (by kernel_rfl) (by rfl) hPan ?_ hS ?_; rotate_left; (intro w' hSw; go_simp; try with_reducible rfl); simp only [Act.put, List.setIfInBounds_toArray, List.set_cons_zero, List.set_cons_succ])
    refine ap_one 8 (by kernel_rfl) ?_
    refine op_run (v := .bool bs) (w' := w6) 8 rfl (by rfl) (by go_simp) ?_
    refine ⟨fun _ => hS, ap_done (by kernel_rfl) ?_ _⟩
    (simp only [Act.put, List.setIfInBounds_toArray, List.set_cons_zero, List.set_cons_succ])
    have e6 := Lib.hid (E1.out.keep0 hS)
    have KE := Lib.hid (KW4.out.then hS)
    clear hS hPan
    go_wp2_with (refine stop_store 47 (.tmp 4) (.tmp 42) rfl ?_)
    constructor
    refine wpList_store_all rfl 47 (.tmp 4) (.tmp 42) rfl rfl rfl (vs := [.int .i64 bg, .int .i64 0]) agg_span.2 e6.out (by simp [Value.oneCell']) ?_ ?_
    · rfl
    intro wz dz kz
    go_wp2
    refine bodyPost_ret (results_cell_tmp rfl _ rfl rfl dz agg_span) rfl ?_
    exact ⟨by rw [HX.out]; rfl, KE.out.trans kz (fun y hy hlt => by simp at hy; omega)⟩
  · have HX : Hid (edgeRes2 (edgeM x k) = .tuple #[.agg #[.int .i64 lw, .int .i64 0], .bool true]) := by show _ = _; rw [HM.out, if_neg (by decide), if_pos rfl]; rfl
    go_wp2
    refine ap_begin 5 (Keep [] w4) rfl (Keep.refl _ _).drew (fun hS hPan => ?_) (fun _ _ d _ _ h => by cases d <;> exact h)
    refine ap_agg 0 26 (.tmp 2) il rfl (by kernel_rfl) (by kernel_rfl) (by kernel_rfl) (by kernel_rfl) (by rfl) hPan rfl rfl (by rw [HIC.out]; exact agg_image) HCI4 hS ?_
    (simp only [Act.put, List.setIfInBounds_toArray, List.set_cons_zero, List.set_cons_succ])
    refine ap_agg 1 137 (.tmp 7) cc rfl (by kernel_rfl) (by kernel_rfl) (by kernel_rfl) (by kernel_rfl) (by rfl) hPan rfl rfl (by rw [HCL3.out]; exact agg_cls) HCC4 hS ?_
    (simp only [Act.put, List.setIfInBounds_toArray, List.set_cons_zero, List.set_cons_succ])
    refine ap_one 2 (by kernel_rfl) ?_
    refine op_call (f := 78) 2 rfl (by rfl) rfl (by simp only [List.map_toArray, List.map_cons, List.map_nil]; rfl) Tryd.func78 (by kernel_rfl) (by kernel_rfl) (HBo _).out ?_
    rintro e w5 ⟨rfl, k5⟩
    replace hS := hS.then k5
    refine ⟨_, rfl, fun _ => hS, ?_⟩
    clear k5
    (simp only [Act.put, List.setIfInBounds_toArray, List.set_cons_zero, List.set_cons_succ])
    refine ap_one 3 (by kernel_rfl) ?_
    refine op_call (f := 77) 3 rfl (by rfl) rfl (by simp only [List.map_toArray, List.map_cons, List.map_nil]; rfl) Tryd.func77 (by kernel_rfl) (by kernel_rfl) (HLo _ (KW4.out.then hS)).out ?_
    rintro e w6 ⟨rfl, k6⟩
    replace hS := hS.then k6
    refine ⟨_, rfl, fun _ => hS, ?_⟩
    clear k6
    (simp only [Act.put, List.setIfInBounds_toArray, List.set_cons_zero, List.set_cons_succ])
    (refine ap_val (v := ?_) 4 rfl (by kernel_rfl) (by kernel_rfl) (by kernel_rfl) (by kernel_rfl) (by rfl) hPan ?_ hS ?_; rotate_left; (intro w' hSw; go_simp; try with_reducible rfl); simp only [Act.put, List.setIfInBounds_toArray, List.set_cons_zero, List.set_cons_succ])
    have e6 := E1.out.keep0 hS
    have KE := Lib.hid (KW4.out.then hS)
    refine ap_one 5 (by kernel_rfl) ?_
    refine op_store_all (vs := [.int .i64 lw, .int .i64 0]) 5 rfl (by rfl) rfl rfl rfl (by kernel_rfl) e6 (by simp [Value.oneCell']) rfl ?_
    intro wz dz kz
    refine ⟨fun h => (by cases h), ?_⟩
    have KZ := Lib.hid (KE.out.trans kz (fun y hy hlt => by simp at hy; omega))
    (simp only [Act.put])
    refine ap_one 6 (by kernel_rfl) ?_
    refine op_run (v := .bool true) (w' := wz) 6 rfl (by rfl) (by go_simp) ?_
    refine ⟨fun h => (by cases h), ap_done (by kernel_rfl) ?_ _⟩
    (simp only [Act.put, List.setIfInBounds_toArray, List.set_cons_zero, List.set_cons_succ])
    clear hS hPan kz
    go_wp2
    refine bodyPost_ret (results_cell_tmp rfl _ rfl rfl dz agg_span) rfl ?_
    exact ⟨by rw [HX.out]; rfl, KZ.out⟩
  · have HX : Hid (edgeRes2 (edgeM x k) = .tuple #[.agg #[.int .i64 (sp.getD (0, 0)).1, .int .i64 (sp.getD (0, 0)).2], .bool sp.isSome]) := by show _ = _; rw [HM.out, if_neg (by decide), if_neg (by decide)]; rfl
    have hcI4 := Lib.hid (HCI4 w4 (Keep.refl _ _))
    go_wp2_with (first
      | (refine wpList_load_agg rfl 26 (.tmp 2) rfl rfl (cs := il) (by rw [HIC.out]; exact agg_image) hcI4.out ?_)
      | (refine wpList_load_agg rfl 42 (.tmp 56) rfl rfl (cs := oc) (by rw [HOC.out]; exact agg_offs) HCO.out ?_))
    refine (HNe w4 KW4.out).out.mono ?_
    rintro e w5 ⟨rfl, k5⟩
    have K5 := Lib.hid k5
    clear k5 hcI4
    go_wp2_with (refine stop_store 142 (.tmp 10) (.tmp 59) rfl ?_)
    constructor
    refine wpList_store_all rfl 142 (.tmp 10) (.tmp 59) rfl rfl rfl (vs := sc) (by rw [HSL.out]; exact agg_shift.2) (Blk.new _ _ _) hone.out ?_ ?_
    · rw [HSL.out]; rfl
    intro w6 d6 k6
    have k56 : Keep [] w5 w6 := ((Keep.refl [] w5).alloc _).trans k6 (fun y hy hlt => by simp at hy; omega)
    have K6 := Lib.hid (K5.out.then k56)
    have hcA := Lib.hid d6.cellsAt
    clear k6 k56 d6
    go_wp2_with (refine wpList_load_agg rfl 142 (.tmp 10) rfl rfl (cs := sc) (by rw [HSL.out]; exact agg_shift) hcA.out ?_)
    refine (HSp w6 (KW4.out.then K6.out)).out.mono ?_
    rintro e w7 ⟨rfl, k7⟩
    rw [show spanRes sp = .tuple #[.agg #[.int .i64 (sp.getD (0, 0)).1, .int .i64 (sp.getD (0, 0)).2], .bool sp.isSome] from rfl]
    generalize (sp.getD (0, 0)).1 = s1 at *
    generalize (sp.getD (0, 0)).2 = s2 at *
    generalize sp.isSome = s3 at *
    have e7 := Lib.hid (E1.out.keep0 (K6.out.then k7))
    have KE := Lib.hid ((KW4.out.then K6.out).then k7)
    clear k7
    go_wp2_with (refine stop_store 47 (.tmp 4) (.tmp 66) rfl ?_)
    constructor
    refine wpList_store_all rfl 47 (.tmp 4) (.tmp 66) rfl rfl rfl (vs := [.int .i64 s1, .int .i64 s2]) agg_span.2 e7.out (by simp [Value.oneCell']) ?_ ?_
    · rfl
    intro wz dz kz
    go_wp2
    refine bodyPost_ret (results_cell_tmp rfl _ rfl rfl dz agg_span) rfl ?_
    exact ⟨by rw [HX.out]; rfl, KE.out.trans kz (fun y hy hlt => by simp at hy; omega)⟩
end Go.Proofs.YteocldlglklnjaaDoor
