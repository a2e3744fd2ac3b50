/- How long the change along an edge takes, by its protocol (window's Longest, Edge). Condition: the table of math/bits lies where the program's text lays it; an image that may be. Certificates in memory, and their words as an iterator (cert.Cert's words). No condition. A certificate as words (cert.Cert's Words). No condition. Two certificates (cert.Same). No condition. -/
import Derived.Test.YtggjhjbcdnffnaaDoorWinF
import Derived.Test.YtggjhjbcdnffnaaDoorEdgeW
import Derived.Test.YtggjhjbcdnffnaaDoorKpU
import Derived.Test.YtggjhjbcdnffnaaDoorCwRight
namespace Go.Proofs.YtggjhjbcdnffnaaDoor
open Go.RowKit
attribute [local go_sem] Oper.semAt_some

def Cls.from_ (c : Cls) : Nat := c.old ||| c.same
theorem Cls.Ok.from_ {c : Cls} (h : c.Ok) : c.from_ < 4294967296 := Nat.or_lt_two_pow (n := 32) h.old h.same
set_option maxRecDepth 100000 in
theorem cfrom_any (c : Cls) (w : World) (h : c.Ok) : Calls Tryd.prog 96 #[.agg (clsCells c).toArray] w fun e w' => e = .returned (.int .u32 (c.from_ : Int)) ∧ Keep [] w w' := by
  have K0 := (Keep.refl [] w).alloc (.cells (clsCells c).toArray 33)
  have hb := Blk.new w 33 (clsCells c).toArray
  have h1 := u32_or_nat c.old c.same h.old h.same
  have HB : Hid (bits .or .u32 (c.old : Int) (c.same : Int) = (c.from_ : Int)) := by show _ = _; rw [h1]; rfl
  have c1 : (w.alloc (.cells (clsCells c).toArray 33)).cell? ⟨w.heap.size, 0, none⟩ = some (.int .u32 (c.old : Int)) := by rw [hb.cell]; rfl
  have c2 : (w.alloc (.cells (clsCells c).toArray 33)).cell? ⟨w.heap.size, 2, none⟩ = some (.int .u32 (c.same : Int)) := by rw [hb.cell]; rfl
  clear hb h1
  generalize (clsCells c).toArray = cs at *
  go_enter Tryd.func96, Tryd.ntmps96
  go_wp2
  go_ret
  exact ⟨congrArg (fun n => Ending.returned (.int .u32 n)) HB.out, K0⟩

/-- The greatest period of a row of tasks. -/
def longStep (x : Img) (n : Int) (i : Nat) : Int := match x.tasks[i]? with | some t => max n t.per | none => n
def longW (x : Img) (is : List Nat) : Int := is.foldl (longStep x) 0
theorem longW_snoc (x : Img) (is : List Nat) (i : Nat) : longW x (is ++ [i]) = longStep x (longW x is) i := by
  unfold longW
  rw [List.foldl_append]; rfl
set_option maxRecDepth 100000 in
set_option maxHeartbeats 2000000 in
theorem longest_any (v : ImgV) (x : Img) (s : Nat) (w : World) (hTb : Tab w) (h : ImgAt w v x) (hs : s < 4294967296) :
    Calls Tryd.prog 97 #[.agg (imgCells v x).toArray, .int .u32 (s : Int)] w fun e w' => e = .returned (.int .i64 (longW x (bitsL s))) ∧ Keep [] w w' := by
  have hl := h.lt
  unfold maxLen at hl
  rw [← callsIn_wide (n := 9)]
  refine callsIn_of_wp_marks Tryd.func97 rfl trivial ?_ rfl
  simp only [Tryd.ntmps97, List.size_toArray, List.length_cons, List.length_nil, Nat.reduceAdd, Nat.reduceSub, Array.replicate_succ, Array.replicate_zero, List.push_toArray, List.append_toArray, List.nil_append, List.cons_append]
  obtain ⟨W1, hW1⟩ : ∃ W1, (w.alloc (.cells (imgCells v x).toArray 26)).alloc (.cells #[.int .i64 0] 3) = W1 := ⟨_, rfl⟩
  have b0 : Blk W1 w.heap.size 26 (imgCells v x).toArray := by rw [← hW1]; exact (img_box w v x).alloc _
  have b1 : Blk W1 (w.heap.size + 1) 3 #[.int .i64 0] := by rw [← hW1]; exact Blk.new1 _ _ _ _
  have K1 : Keep [] w W1 := by rw [← hW1]; exact ((Keep.refl [] w).alloc _).alloc _
  have hz1 : W1.heap.size = w.heap.size + 2 := by rw [← hW1]; simp
  have c1 := b1.cell 0
  have f1 := b1.frozen 0
  simp at c1
  have b2 := b1.set_ 0 (.int .i64 0)
  have K2 : Keep [] w (W1.setCell ⟨w.heap.size + 1, 0, none⟩ (.int .i64 0)) := K1.trans (keep_set _ _ _ _) (fun y hy hlt => by simp at hy; omega)
  have b02 := b0.keep (keep_set W1 (w.heap.size + 1) 0 (.int .i64 0)) (by simp)
  obtain ⟨W2, hW2⟩ : ∃ W2, W1.setCell ⟨w.heap.size + 1, 0, none⟩ (.int .i64 0) = W2 := ⟨_, rfl⟩
  have hz2 : W2.heap.size = w.heap.size + 2 := by rw [← hW2]; simpa using hz1
  rw [hW2] at b2 K2 b02
  have b2 : Blk W2 (w.heap.size + 1) 3 #[.int .i64 0] := b2
  have HW := Lib.hid hW1
  have HWW := Lib.hid hW2
  have HI := Lib.hid h
  have hT2 := hTb.keep0 K2
  have hT0 := hTb.1
  have HL := Lib.hid hl
  clear hW1 hW2 b0 b1 K1 h hTb hl
  have hil1 : (imgCells v x)[1]? = some (.slice v.ta x.tasks.length v.tc) := rfl
  have HI1 := Lib.hid hil1
  have HZ2 := Lib.hid hz2
  clear hil1 hz2 hz1
  generalize imgCells v x = il at *
  gi_wp2_with (first
    | rw [HW.out]
    | rw [HWW.out]
    | (refine ⟨trivial, ?_⟩; gi_at_call 54; refine (callsIn_wide.2 (maskAll_any s _)).mono ?_; rintro e w6 ⟨rfl, hw6⟩))
  have k26 : Keep [] W2 w6 := by rw [← hw6]; exact (Keep.refl _ W2).alloc _
  have d6 : Blk w6 W2.heap.size 31 #[.int .u32 (s : Int)] := by rw [← hw6]; exact Blk.new _ _ _
  have hz6 : w6.heap.size = W2.heap.size + 1 := by rw [← hw6]; simp
  have hss := maskAll1_seq 8 s W2.heap.size w6 (by omega) d6 hs (hT2.keep0 k26)
  have K6 := K2.then k26
  replace b2 := b2.keep0 k26
  replace b02 := b02.keep0 k26
  clear hw6 HW HWW k26 hT2 c1 f1
  refine wpIn_rangeT (F := Fence.wide) (n := 9) (Lo := fun _ _ => False) (ps := #[9]) rfl (by omega) (gf := 85) (lb := #[.pointer (some ⟨W2.heap.size, 0, none⟩)]) rfl trivial (enters_of Tryd.func85 (by kernel_rfl) rfl)
    (hss.toT _) Same.trans (fun W _ o' _ _ => same_putO (by have hz2 := HZ2.out; simp; omega) o') (Below.refl _ _) (fun _ => rfl)
    (fun pre W' => Blk W' (w.heap.size + 1) 3 #[.int .i64 (longW x pre)] ∧ Keep [w.heap.size + 1] w6 W')
    (fun _ _ _ => False)
    ?hI (fun _ _ _ _ _ hs _ _ => hs) ⟨b2, Keep.refl _ _⟩
    (fun i => { tmps := #[.agg il.toArray, .int .u32 (s : Int), .pointer (some ⟨w.heap.size, 0, none⟩), undef, .int .i64 0, .pointer (some ⟨w.heap.size + 1, 0, none⟩), .int .i64 (i : Int), .int .u32 (s : Int), .func (.func 85) #[] #[.pointer (some ⟨W2.heap.size, 0, none⟩)], .int .i64 (i : Int),
      undef, undef, undef, undef, undef, undef, undef, undef, undef, undef, undef, undef, undef, undef], defers := [] }) ?assign ?body ?done ?stop
  case hI => exact OwnFrom.toT (OwnFrom.and (blk_own _ _ _) (keep_own (Nat.le_refl _)))
  case assign =>
    intro l i W' K hK
    simp only [encN]
    gi_wp2
    exact hK
  case body =>
    rintro l pre i Wb ⟨hb, hK⟩ hpre
    have hKz := hK.size
    have KWb : Keep [] w Wb := K6.trans hK (fun y hy hlt => by simp at hy; omega)
    have e0 := b02.keep hK (by simp)
    have c1 : Wb.cell? ⟨w.heap.size, 1, none⟩ = some (.slice v.ta x.tasks.length v.tc) := e0.at_ HI1.out
    have hsn := longW_snoc x pre i
    have hb0 := hb.cell 0
    have hf0 := hb.frozen 0
    simp at hb0
    have hl := HL.out
    by_cases hi : i < x.tasks.length
    · obtain ⟨b, o, hA, hbw, hcs⟩ := HI.out.task (by omega)
      have hp := ((hcs i hi).keep0 KWb hbw) 0 (.int .i64 x.tasks[i].per) rfl
      rw [Nat.add_zero] at hp
      rw [hA] at c1
      have hst : longStep x (longW x pre) i = max (longW x pre) x.tasks[i].per := by unfold longStep; rw [List.getElem?_eq_getElem hi]
      rw [hst] at hsn
      have p0 : (0 : Int) ≤ (i : Int) := by omega
      have p1 : (i : Int) < (x.tasks.length : Int) := by omega
      have p2 : decide ((i : Int) < (x.tasks.length : Int)) = true := decide_eq_true p1
      have p3 : decide (i < x.tasks.length) = true := decide_eq_true hi
      have HB := Lib.hid hb
      have HSN := Lib.hid hsn
      clear hcs hst hb hsn
      generalize longW x pre = z0 at *
      generalize x.tasks[i].per = z1 at *
      have hF : ∀ w', Keep [] Wb w' → w'.cell? ⟨w.heap.size + 1, 0, none⟩ = some (.int .i64 z0) ∧ w'.cell? ⟨w.heap.size, 1, none⟩ = some (.slice (some ⟨b, o, none⟩) x.tasks.length v.tc) ∧ w'.cell? ⟨b, o + i * 11, none⟩ = some (.int .i64 z1) := fun w' hw =>
        ⟨(hw.cell (p := ⟨w.heap.size + 1, 0, none⟩) HB.out.lt (by simp)).trans hb0, (hw.cell (p := ⟨w.heap.size, 1, none⟩) (World.block_lt_of_cell? _ _ c1) (by simp)).trans c1, (hw.cell (p := ⟨b, o + i * 11, none⟩) (World.block_lt_of_cell? _ _ hp) (by simp)).trans hp⟩
      gi_wp2
      refine ap_start 8 (Keep [] Wb) (open_round _) rfl rfl (Keep.refl _ _).drew (fun hS hPan => ?_) (fun _ _ _ _ _ h => h)
      (refine ap_val (v := ?_) 0 rfl (by kernel_rfl) (by kernel_rfl) (by kernel_rfl) (by kernel_rfl) (by rfl) hPan ?_ hS ?_; rotate_left; (intro w' hSw; obtain ⟨g1,g2,g3⟩ := hF w' hSw; go_simp; try with_reducible rfl); simp only [Act.put, List.setIfInBounds_toArray, List.set_cons_zero, List.set_cons_succ])
      (refine ap_val (v := ?_) 1 rfl (by kernel_rfl) (by kernel_rfl) (by kernel_rfl) (by kernel_rfl) (by rfl) hPan ?_ hS ?_; rotate_left; (intro w' hSw; obtain ⟨g1,g2,g3⟩ := hF w' hSw; go_simp; try with_reducible rfl); simp only [Act.put, List.setIfInBounds_toArray, List.set_cons_zero, List.set_cons_succ])
      (refine ap_val (v := ?_) 2 rfl (by kernel_rfl) (by kernel_rfl) (by kernel_rfl) (by kernel_rfl) (by rfl) hPan ?_ hS ?_; rotate_left; (intro w' hSw; obtain ⟨g1,g2,g3⟩ := hF w' hSw; go_simp; try with_reducible rfl); simp only [Act.put, List.setIfInBounds_toArray, List.set_cons_zero, List.set_cons_succ])
      (refine ap_val (v := ?_) 3 rfl (by kernel_rfl) (by kernel_rfl) (by kernel_rfl) (by kernel_rfl) (by rfl) hPan ?_ hS ?_; rotate_left; (intro w' hSw; obtain ⟨g1,g2,g3⟩ := hF w' hSw; go_simp; try with_reducible rfl); simp only [Act.put, List.setIfInBounds_toArray, List.set_cons_zero, List.set_cons_succ])
      (refine ap_val (v := ?_) 4 rfl (by kernel_rfl) (by kernel_rfl) (by kernel_rfl) (by kernel_rfl) (by rfl) hPan ?_ hS ?_; rotate_left; (intro w' hSw; obtain ⟨g1,g2,g3⟩ := hF w' hSw; go_simp; try with_reducible rfl); simp only [Act.put, List.setIfInBounds_toArray, List.set_cons_zero, List.set_cons_succ])
      (refine ap_val (v := ?_) 5 rfl (by kernel_rfl) (by kernel_rfl) (by kernel_rfl) (by kernel_rfl) (by rfl) hPan ?_ hS ?_; rotate_left; (intro w' hSw; obtain ⟨g1,g2,g3⟩ := hF w' hSw; go_simp; try with_reducible rfl); simp only [Act.put, List.setIfInBounds_toArray, List.set_cons_zero, List.set_cons_succ])
      (refine ap_val (v := ?_) 6 rfl (by kernel_rfl) (by kernel_rfl) (by kernel_rfl) (by kernel_rfl) (by rfl) hPan ?_ hS ?_; rotate_left; (intro w' hSw; obtain ⟨g1,g2,g3⟩ := hF w' hSw; go_simp; try with_reducible rfl); simp only [Act.put, List.setIfInBounds_toArray, List.set_cons_zero, List.set_cons_succ])
      refine ap_val (v := .int .i64 (max z0 z1)) 7 rfl (by kernel_rfl) (by kernel_rfl) (by kernel_rfl) (by kernel_rfl) (by rfl) hPan (fun w' _ => run_max rfl rfl) hS ?_
      (simp only [Act.put, List.setIfInBounds_toArray, List.set_cons_zero, List.set_cons_succ])
      refine ap_one 8 (by kernel_rfl) ?_
      refine op_store1 (v := .int .i64 (max z0 z1)) 8 rfl (by rfl) rfl rfl rfl (by kernel_rfl) rfl rfl hb0 hf0 ?_
      refine ⟨fun h => (by cases h), ap_done (by kernel_rfl) ?_ _⟩
      rw [noOut_normal]
      (simp only [Act.put])
      gi_wp2
      have hz2 := HZ2.out
      have k1 := (Keep.refl [w.heap.size + 1] Wb).drew
      have kA : Keep [w.heap.size + 1] Wb (Wb.drew.setCell ⟨w.heap.size + 1, 0, none⟩ (.int .i64 (max z0 z1))) := k1.setCell (by simp) _
      refine ⟨kA.from (fun y hy => .inl (by simp at hy; omega)), Same.keep kA (fun y hy => ⟨?_, ?_⟩), ?_, hK.trans kA (fun y hy _ => hy)⟩
      · simp only [List.mem_cons, List.not_mem_nil, or_false] at hy
        rcases hy with rfl | rfl <;> omega
      · simp only [List.mem_cons, List.not_mem_nil, or_false] at hy ⊢
        rcases hy with rfl | rfl <;> omega
      · rw [HSN.out]
        exact HB.out.drew.set_ 0 _
    · have hst : longStep x (longW x pre) i = longW x pre := by unfold longStep; rw [List.getElem?_eq_none (by omega)]
      rw [hst] at hsn
      have p2 : decide ((i : Int) < (x.tasks.length : Int)) = false := decide_eq_false (by omega)
      have p3 : decide (i < x.tasks.length) = false := decide_eq_false hi
      have HSN := Lib.hid hsn
      clear hst hsn
      gi_wp2
      exact ⟨KeepsFrom.refl _ _, Same.refl _ _, by rw [HSN.out]; exact hb, hK⟩
  case done =>
    rintro D Wd hD ⟨hb, hK⟩ hD2
    have hc := hb.cell 0
    simp at hc
    gi_wp2
    refine ⟨by simp, .inl ⟨_, _, rfl, run_takeDeferred hD2, ?_⟩⟩
    refine ⟨_, by simp [results, Tryd.results97, go_sem], rfl, ?_⟩
    have hz2 := HZ2.out
    exact (K6.trans hK (fun y hy hlt => by simp at hy; omega)).trans (keep_putObj _ D _) (fun y hy hlt => by simp at hy; omega)
  case stop => exact fun _ _ _ _ _ _ h _ => h.elim

/-- How long the change along an edge takes; is it known? -/
def edgeM (x : Img) (k : Nat) : (Int × Int) × Bool := match x.edges[k]? with
  | none => ((0, 0), false)
  | some e => if e.prot = 1 then (((busyM x (clsE x k).from_).getD 0, 0), (busyM x (clsE x k).from_).isSome)
    else if e.prot = 2 then ((longW x (bitsL (clsE x k).both), 0), true)
    else ((spanM x (clsE x k) (tabE x k) e.offs).getD (0, 0), (spanM x (clsE x k) (tabE x k) e.offs).isSome)
def edgeRes2 (r : (Int × Int) × Bool) : Value := .tuple #[.agg #[.int .i64 r.1.1, .int .i64 r.1.2], .bool r.2]
set_option maxRecDepth 100000 in
set_option maxHeartbeats 3000000 in
theorem wedge_any (v : ImgV) (x : Img) (k : Nat) (w : World) (hTb : Tab w) (h : ImgAt w v x) (hE : EdW x k) (hlt : k < x.edges.length) (hp : 1 ≤ x.edges[k].prot ∧ x.edges[k].prot ≤ 3) (hO : OffOk x.edges[k].offs) :
    Calls Tryd.prog 65 #[.agg (imgCells v x).toArray, .int .i64 (k : Int)] w fun e w' => e = .returned (edgeRes2 (edgeM x k)) ∧ Keep [] w w' := by
  have hl := h.le
  unfold maxLen at hl
  obtain ⟨W0, hW0⟩ : ∃ W0, (w.alloc (.cells (imgCells v x).toArray 26)).alloc (.cells #[.int .i64 0, .int .i64 0] 49) = W0 := ⟨_, rfl⟩
  have b0 : Blk W0 w.heap.size 26 (imgCells v x).toArray := by rw [← hW0]; exact (img_box w v x).alloc _
  have b1 : Blk W0 (w.heap.size + 1) 49 #[.int .i64 0, .int .i64 0] := by rw [← hW0]; exact Blk.new1 _ _ _ _
  have K0 : Keep [] w W0 := by rw [← hW0]; exact ((Keep.refl _ w).alloc _).alloc _
  have c3 : W0.cell? ⟨w.heap.size, 3, none⟩ = some (.slice v.ea x.edges.length v.ec) := by rw [b0.cell]; rfl
  obtain ⟨b, o, hA, hbw, hcs⟩ := h.edge (by omega)
  have hct := Lib.hid ((hcs k hlt).keep0 K0 hbw)
  rw [hA] at c3
  have HEL : Hid ((edgCells x.edges[k]).length = 23) := edgCells_len (h.ok.offs _ (List.getElem_mem hlt)) (h.ok.mp _ (List.getElem_mem hlt))
  have HEO : Hid (∀ u ∈ edgCells x.edges[k], u.oneCell' = true) := iv_one _
  have HG : Hid ((edgCells x.edges[k])[2]? = some (.int .i64 x.edges[k].prot)) := show _ = _ from rfl
  have HGO : Hid (∀ w' b, CellsAt w' b 0 (edgCells x.edges[k]) → CellsAt w' b 3 (iv x.edges[k].offs)) := fun w' b hc => cells_mid (A := iv [x.edges[k].frm, x.edges[k].to, x.edges[k].prot]) (C := iv x.edges[k].mp) hc (by unfold edgCells edgInts iv; simp) rfl
  have HOC : Hid ((iv x.edges[k].offs).length = 16) := by show _ = _; rw [iv_len]; exact hO.1
  have HIC : Hid ((imgCells v x).length = 4) := show _ = _ from rfl
  have hcok := clsE_ok x k h.ok
  have HCF : Hid (∀ w', Keep [] W0 w' → CellsAt w' w.heap.size 0 (imgCells v x)) := fun w' hk => (b0.keep0 hk).cellsAt
  have HEd := fun w' hk => Lib.hid (clsEdge_any v x k w' (h.keep0 (w' := w') hk) hlt)
  have HFr := fun w' => Lib.hid (cfrom_any (clsE x k) w' hcok)
  have HBo := fun w' => Lib.hid (both_any (clsE x k) w' hcok)
  have HBu := fun w' hk => Lib.hid (busy_any v x (clsE x k).from_ w' (hTb.keep0 hk) (h.keep0 hk) hcok.from_)
  have HLo := fun w' hk => Lib.hid (longest_any v x (clsE x k).both w' (hTb.keep0 hk) (h.keep0 hk) hcok.both)
  have HNe := fun w' hk => Lib.hid (new_in v x k x.edges[k].offs w' (hTb.keep0 (w' := w') hk) (h.keep0 hk) hlt hO.1)
  have HSp := fun w' hk => Lib.hid (span_any v x (clsE x k) (tabE x k) x.edges[k].offs w' (hTb.keep0 (w' := w') hk) (h.keep0 hk) hcok (tabE_len x k) hO hE.small hE.both hE.to_)
  have HSL : Hid ((shCells v x (clsE x k) (tabE x k) x.edges[k].offs).length = 31) := shCells_len v x _ (tabE_len x k) hO.1
  have hone : Hid (∀ u ∈ shCells v x (clsE x k) (tabE x k) x.edges[k].offs, u.oneCell' = true) := shCells_one _ _ _ _ _
  have HM : Hid (edgeM x k = if x.edges[k].prot = 1 then (((busyM x (clsE x k).from_).getD 0, 0), (busyM x (clsE x k).from_).isSome)
    else if x.edges[k].prot = 2 then ((longW x (bitsL (clsE x k).both), 0), true)
    else ((spanM x (clsE x k) (tabE x k) x.edges[k].offs).getD (0, 0), (spanM x (clsE x k) (tabE x k) x.edges[k].offs).isSome)) := by
    show _ = _
    unfold edgeM
    rw [List.getElem?_eq_getElem hlt]
  have q0 : decide ((k : Int) < 0) = false := decide_eq_false (by omega)
  have q1 : decide ((x.edges.length : Int) ≤ (k : Int)) = false := decide_eq_false (by omega)
  have q1n : decide (x.edges.length ≤ k) = false := decide_eq_false (by omega)
  have q2 : (0 : Int) ≤ (k : Int) := by omega
  have q3 : (k : Int) < (x.edges.length : Int) := by omega
  have HW := Lib.hid hW0
  have B1 := Lib.hid b1
  clear hW0 b0 b1 hcs h hTb hO hcok hE
  generalize busyM x (clsE x k).from_ = bm at *
  generalize longW x (bitsL (clsE x k).both) = lw at *
  generalize spanM x (clsE x k) (tabE x k) x.edges[k].offs = sp at *
  generalize shCells v x (clsE x k) (tabE x k) x.edges[k].offs = sc at *
  generalize hcl : (clsE x k) = ce at *
  have HCL3 : Hid ((clsCells ce).length = 3) := show _ = _ from rfl
  have honeC : Hid (∀ u ∈ clsCells ce, u.oneCell' = true) := by intro u hu; simp only [clsCells, List.mem_cons, List.not_mem_nil, or_false] at hu; rcases hu with rfl | rfl | rfl <;> rfl
  clear hcl
  generalize edgCells x.edges[k] = ec at *
  generalize x.edges[k].prot = pr at *
  generalize iv x.edges[k].offs = oc at *
  generalize imgCells v x = il at *
  generalize clsCells ce = cc at *
  generalize ce.from_ = fr at *
  generalize ce.both = bo at *
  have hpr : pr = 1 ∨ pr = 2 ∨ pr = 3 := by omega
  go_enter Tryd.func65, Tryd.ntmps65
  go_wp2_with (first
    | rw [HW.out]
    | (refine wpList_load_agg rfl 67 (.tmp 25) rfl rfl (cs := ec) (by rw [HEL.out]; exact agg_edge23) hct.out ?_)
    | refine stop_store 67 (.tmp 6) (.tmp 26) rfl ?_)
  constructor
  refine wpList_store_all rfl 67 (.tmp 6) (.tmp 26) rfl rfl rfl (vs := ec) (by rw [HEL.out]; exact agg_edge23.2) (Blk.new _ _ _) HEO.out ?_ ?_
  · rw [HEL.out]; rfl
  intro w2 d2 k2
  have K2 := Lib.hid (((Keep.refl [] W0).alloc _).trans k2 (fun y hy hlt => by simp at hy; omega) : Keep [] W0 w2)
  have D2 := Lib.hid d2
  have hcI2 := Lib.hid (HCF.out w2 K2.out)
  clear k2 d2 q0 q1 q1n c3
  go_wp2_with (refine wpList_load_agg rfl 26 (.tmp 2) rfl rfl (cs := il) (by rw [HIC.out]; exact agg_image) hcI2.out ?_)
  refine (HEd w2 (K0.then K2.out)).out.mono ?_
  rintro e w3 ⟨rfl, k3⟩
  go_wp2_with (refine stop_store 33 (.tmp 7) (.tmp 29) rfl ?_)
  constructor
  refine wpList_store_all rfl 33 (.tmp 7) (.tmp 29) rfl rfl rfl (vs := cc) (by rw [HCL3.out]; exact agg_cls.2) (Blk.new _ _ _) honeC.out ?_ ?_
  · rw [HCL3.out]; rfl
  intro w4 d4 k4
  have k34 : Keep [] w3 w4 := ((Keep.refl [] w3).alloc _).trans k4 (fun y hy hlt => by simp at hy; omega)
  have K4 := Lib.hid (K2.out.then (k3.then k34))
  have d24 := D2.out.keep0 (k3.then k34)
  have cpr := d24.at_ HG.out
  have HCO := Lib.hid (HGO.out w4 _ d24.cellsAt)
  have D4 := Lib.hid d4
  have HCI4 : ∀ w', Keep [] w4 w' → CellsAt w' w.heap.size 0 il := fun w' hk => HCF.out w' (K4.out.then hk)
  have HCC4 : ∀ w', Keep [] w4 w' → CellsAt w' w3.heap.size 0 cc := fun w' hk => (D4.out.keep0 hk).cellsAt
  have E1 := Lib.hid (B1.out.keep0 K4.out)
  have KW4 := Lib.hid (K0.then K4.out)
  clear k3 k34 k4 d4 hcI2 HEd D2 d24 hct
  rcases hpr with rfl | rfl | rfl
  · have HX : Hid (edgeRes2 (edgeM x k) = .tuple #[.agg #[.int .i64 (bm.getD 0), .int .i64 0], .bool bm.isSome]) := by show _ = _; rw [HM.out, if_pos rfl]; rfl
    go_wp2
    refine ap_begin 8 (Keep [] w4) rfl (Keep.refl _ _).drew (fun hS hPan => ?_) (fun _ _ d _ _ h => by cases d <;> exact h)
    refine ap_agg 0 26 (.tmp 2) il rfl (by kernel_rfl) (by kernel_rfl) (by kernel_rfl) (by kernel_rfl) (by rfl) hPan rfl rfl (by rw [HIC.out]; exact agg_image) HCI4 hS ?_
    (simp only [Act.put, List.setIfInBounds_toArray, List.set_cons_zero, List.set_cons_succ])
    refine ap_agg 1 33 (.tmp 7) cc rfl (by kernel_rfl) (by kernel_rfl) (by kernel_rfl) (by kernel_rfl) (by rfl) hPan rfl rfl (by rw [HCL3.out]; exact agg_cls) HCC4 hS ?_
    (simp only [Act.put, List.setIfInBounds_toArray, List.set_cons_zero, List.set_cons_succ])
    refine ap_one 2 (by kernel_rfl) ?_
    refine op_call (f := 96) 2 rfl (by rfl) rfl (by simp only [List.map_toArray, List.map_cons, List.map_nil]; rfl) Tryd.func96 (by kernel_rfl) (by kernel_rfl) (HFr _).out ?_
    rintro e w5 ⟨rfl, k5⟩
    replace hS := hS.then k5
    refine ⟨_, rfl, fun _ => hS, ?_⟩
    clear k5
    (simp only [Act.put, List.setIfInBounds_toArray, List.set_cons_zero, List.set_cons_succ])
    refine ap_one 3 (by kernel_rfl) ?_
    refine op_call (f := 95) 3 rfl (by rfl) rfl (by simp only [List.map_toArray, List.map_cons, List.map_nil]; rfl) Tryd.func95 (by kernel_rfl) (by kernel_rfl) (HBu _ (KW4.out.then hS)).out ?_
    rintro e w6 ⟨rfl, k6⟩
    replace hS := hS.then k6
    refine ⟨_, rfl, fun _ => hS, ?_⟩
    clear k6
    rw [numRes_eq]
    generalize bm.getD 0 = bg at *
    generalize bm.isSome = bs at *
    (simp only [Act.put, List.setIfInBounds_toArray, List.set_cons_zero, List.set_cons_succ])
    (refine ap_val (v := ?_) 4 rfl (by kernel_rfl) (by kernel_rfl) (by kernel_rfl) (by kernel_rfl) (by rfl) hPan ?_ hS ?_; rotate_left; (intro w' hSw; go_simp; try with_reducible rfl); simp only [Act.put, List.setIfInBounds_toArray, List.set_cons_zero, List.set_cons_succ])
    (refine ap_val (v := ?_) 5 rfl (by kernel_rfl) (by kernel_rfl) (by kernel_rfl) (by kernel_rfl) (by rfl) hPan ?_ hS ?_; rotate_left; (intro w' hSw; go_simp; try with_reducible rfl); simp only [Act.put, List.setIfInBounds_toArray, List.set_cons_zero, List.set_cons_succ])
    (refine ap_val (v := ?_) 6 rfl (by kernel_rfl) (by kernel_rfl) (by kernel_rfl) (by kernel_rfl) (by rfl) hPan ?_ hS ?_; rotate_left; (intro w' hSw; go_simp; try with_reducible rfl); simp only [Act.put, List.setIfInBounds_toArray, List.set_cons_zero, List.set_cons_succ])
    (refine ap_val (v := ?_) 7 rfl (by kernel_rfl) (by kernel_rfl) (by kernel_rfl) (by kernel_rfl) (by rfl) hPan ?_ hS ?_; rotate_left; (intro w' hSw; go_simp; try with_reducible rfl); simp only [Act.put, List.setIfInBounds_toArray, List.set_cons_zero, List.set_cons_succ])
    refine ap_one 8 (by kernel_rfl) ?_
    refine op_run (v := .bool bs) (w' := w6) 8 rfl (by rfl) (by go_simp) ?_
    refine ⟨fun _ => hS, ap_done (by kernel_rfl) ?_ _⟩
    (simp only [Act.put, List.setIfInBounds_toArray, List.set_cons_zero, List.set_cons_succ])
    have e6 := Lib.hid (E1.out.keep0 hS)
    have KE := Lib.hid (KW4.out.then hS)
    clear hS hPan
    go_wp2_with (refine stop_store 49 (.tmp 4) (.tmp 42) rfl ?_)
    constructor
    refine wpList_store_all rfl 49 (.tmp 4) (.tmp 42) rfl rfl rfl (vs := [.int .i64 bg, .int .i64 0]) agg_span.2 e6.out (by simp [Value.oneCell']) ?_ ?_
    · rfl
    intro wz dz kz
    go_wp2
    refine bodyPost_ret (results_cell_tmp rfl _ rfl rfl dz agg_span) rfl ?_
    exact ⟨by rw [HX.out]; rfl, KE.out.trans kz (fun y hy hlt => by simp at hy; omega)⟩
  · have HX : Hid (edgeRes2 (edgeM x k) = .tuple #[.agg #[.int .i64 lw, .int .i64 0], .bool true]) := by show _ = _; rw [HM.out, if_neg (by decide), if_pos rfl]; rfl
    go_wp2
    refine ap_begin 5 (Keep [] w4) rfl (Keep.refl _ _).drew (fun hS hPan => ?_) (fun _ _ d _ _ h => by cases d <;> exact h)
    refine ap_agg 0 26 (.tmp 2) il rfl (by kernel_rfl) (by kernel_rfl) (by kernel_rfl) (by kernel_rfl) (by rfl) hPan rfl rfl (by rw [HIC.out]; exact agg_image) HCI4 hS ?_
    (simp only [Act.put, List.setIfInBounds_toArray, List.set_cons_zero, List.set_cons_succ])
    refine ap_agg 1 33 (.tmp 7) cc rfl (by kernel_rfl) (by kernel_rfl) (by kernel_rfl) (by kernel_rfl) (by rfl) hPan rfl rfl (by rw [HCL3.out]; exact agg_cls) HCC4 hS ?_
    (simp only [Act.put, List.setIfInBounds_toArray, List.set_cons_zero, List.set_cons_succ])
    refine ap_one 2 (by kernel_rfl) ?_
    refine op_call (f := 38) 2 rfl (by rfl) rfl (by simp only [List.map_toArray, List.map_cons, List.map_nil]; rfl) Tryd.func38 (by kernel_rfl) (by kernel_rfl) (HBo _).out ?_
    rintro e w5 ⟨rfl, k5⟩
    replace hS := hS.then k5
    refine ⟨_, rfl, fun _ => hS, ?_⟩
    clear k5
    (simp only [Act.put, List.setIfInBounds_toArray, List.set_cons_zero, List.set_cons_succ])
    refine ap_one 3 (by kernel_rfl) ?_
    refine op_call (f := 97) 3 rfl (by rfl) rfl (by simp only [List.map_toArray, List.map_cons, List.map_nil]; rfl) Tryd.func97 (by kernel_rfl) (by kernel_rfl) (HLo _ (KW4.out.then hS)).out ?_
    rintro e w6 ⟨rfl, k6⟩
    replace hS := hS.then k6
    refine ⟨_, rfl, fun _ => hS, ?_⟩
    clear k6
    (simp only [Act.put, List.setIfInBounds_toArray, List.set_cons_zero, List.set_cons_succ])
    (refine ap_val (v := ?_) 4 rfl (by kernel_rfl) (by kernel_rfl) (by kernel_rfl) (by kernel_rfl) (by rfl) hPan ?_ hS ?_; rotate_left; (intro w' hSw; go_simp; try with_reducible rfl); simp only [Act.put, List.setIfInBounds_toArray, List.set_cons_zero, List.set_cons_succ])
    have e6 := E1.out.keep0 hS
    have KE := Lib.hid (KW4.out.then hS)
    refine ap_one 5 (by kernel_rfl) ?_
    refine op_store_all (vs := [.int .i64 lw, .int .i64 0]) 5 rfl (by rfl) rfl rfl rfl (by kernel_rfl) e6 (by simp [Value.oneCell']) rfl ?_
    intro wz dz kz
    refine ⟨fun h => (by cases h), ?_⟩
    have KZ := Lib.hid (KE.out.trans kz (fun y hy hlt => by simp at hy; omega))
    (simp only [Act.put])
    refine ap_one 6 (by kernel_rfl) ?_
    refine op_run (v := .bool true) (w' := wz) 6 rfl (by rfl) (by go_simp) ?_
    refine ⟨fun h => (by cases h), ap_done (by kernel_rfl) ?_ _⟩
    (simp only [Act.put, List.setIfInBounds_toArray, List.set_cons_zero, List.set_cons_succ])
    clear hS hPan kz
    go_wp2
    refine bodyPost_ret (results_cell_tmp rfl _ rfl rfl dz agg_span) rfl ?_
    exact ⟨by rw [HX.out]; rfl, KZ.out⟩
  · have HX : Hid (edgeRes2 (edgeM x k) = .tuple #[.agg #[.int .i64 (sp.getD (0, 0)).1, .int .i64 (sp.getD (0, 0)).2], .bool sp.isSome]) := by show _ = _; rw [HM.out, if_neg (by decide), if_neg (by decide)]; rfl
    have hcI4 := Lib.hid (HCI4 w4 (Keep.refl _ _))
    go_wp2_with (first
      | (refine wpList_load_agg rfl 26 (.tmp 2) rfl rfl (cs := il) (by rw [HIC.out]; exact agg_image) hcI4.out ?_)
      | (refine wpList_load_agg rfl 27 (.tmp 56) rfl rfl (cs := oc) (by rw [HOC.out]; exact agg_offs) HCO.out ?_))
    refine (HNe w4 KW4.out).out.mono ?_
    rintro e w5 ⟨rfl, k5⟩
    have K5 := Lib.hid k5
    clear k5 hcI4
    go_wp2_with (refine stop_store 37 (.tmp 10) (.tmp 59) rfl ?_)
    constructor
    refine wpList_store_all rfl 37 (.tmp 10) (.tmp 59) rfl rfl rfl (vs := sc) (by rw [HSL.out]; exact agg_shift.2) (Blk.new _ _ _) hone.out ?_ ?_
    · rw [HSL.out]; rfl
    intro w6 d6 k6
    have k56 : Keep [] w5 w6 := ((Keep.refl [] w5).alloc _).trans k6 (fun y hy hlt => by simp at hy; omega)
    have K6 := Lib.hid (K5.out.then k56)
    have hcA := Lib.hid d6.cellsAt
    clear k6 k56 d6
    go_wp2_with (refine wpList_load_agg rfl 37 (.tmp 10) rfl rfl (cs := sc) (by rw [HSL.out]; exact agg_shift) hcA.out ?_)
    refine (HSp w6 (KW4.out.then K6.out)).out.mono ?_
    rintro e w7 ⟨rfl, k7⟩
    rw [show spanRes sp = .tuple #[.agg #[.int .i64 (sp.getD (0, 0)).1, .int .i64 (sp.getD (0, 0)).2], .bool sp.isSome] from rfl]
    generalize (sp.getD (0, 0)).1 = s1 at *
    generalize (sp.getD (0, 0)).2 = s2 at *
    generalize sp.isSome = s3 at *
    have e7 := Lib.hid (E1.out.keep0 (K6.out.then k7))
    have KE := Lib.hid ((KW4.out.then K6.out).then k7)
    clear k7
    go_wp2_with (refine stop_store 49 (.tmp 4) (.tmp 66) rfl ?_)
    constructor
    refine wpList_store_all rfl 49 (.tmp 4) (.tmp 66) rfl rfl rfl (vs := [.int .i64 s1, .int .i64 s2]) agg_span.2 e7.out (by simp [Value.oneCell']) ?_ ?_
    · rfl
    intro wz dz kz
    go_wp2
    refine bodyPost_ret (results_cell_tmp rfl _ rfl rfl dz agg_span) rfl ?_
    exact ⟨by rw [HX.out]; rfl, KE.out.trans kz (fun y hy hlt => by simp at hy; omega)⟩
end Go.Proofs.YtggjhjbcdnffnaaDoor

namespace Go.Proofs.YtggjhjbcdnffnaaDoor
open Go.RowKit
attribute [local go_sem] Oper.semAt_some

/-- What is known of an image. -/
structure Crt where
  modes : List (List RowM)
  edges : List (Int × Int)
/-- Where a certificate's parts lie. -/
structure CrtV where
  ma : Option Addr
  mc : Nat
  ea : Option Addr
  ec : Nat
def crtCells (v : CrtV) (c : Crt) : List Value := [.slice v.ma c.modes.length v.mc, .slice v.ea c.edges.length v.ec]
def spnCells (s : Int × Int) : List Value := [.int .i64 s.1, .int .i64 s.2]
structure CrtAt (w : World) (v : CrtV) (c : Crt) : Prop where
  modes : ∃ vs : List Value, vs.length = c.modes.length ∧ Reads w 1 v.ma c.modes.length vs ∧ ∀ i, (h : i < c.modes.length) → ∃ A cp, vs[i]? = some (.slice A c.modes[i].length cp) ∧ Reads w 3 A c.modes[i].length (c.modes[i].flatMap rowCells)
  edges : Reads w 2 v.ea c.edges.length (c.edges.flatMap spnCells)
  lm : c.modes.length ≤ 100
  le : c.edges.length ≤ 100
  lr : ∀ r ∈ c.modes, r.length ≤ 100
theorem CrtAt.keep0 {w w' : World} {v : CrtV} {c : Crt} (h : CrtAt w v c) (k : Keep [] w w') : CrtAt w' v c := by
  obtain ⟨vs, h1, h2, h3⟩ := h.modes
  exact ⟨⟨vs, h1, h2.keep0 k, fun i hi => (h3 i hi).imp fun A => fun ⟨cp, a, b⟩ => ⟨cp, a, b.keep0 k⟩⟩, h.edges.keep0 k, h.lm, h.le, h.lr⟩
theorem CrtAt.mode {w : World} {v : CrtV} {c : Crt} (h : CrtAt w v c) (hp : 0 < c.modes.length) : ∃ b o, v.ma = some ⟨b, o, none⟩ ∧ b < w.heap.size ∧
    ∀ k, (hk : k < c.modes.length) → ∃ A cp, w.cell? ⟨b, o + k, none⟩ = some (.slice A c.modes[k].length cp) ∧ Reads w 3 A c.modes[k].length (c.modes[k].flatMap rowCells) := by
  obtain ⟨vs, h1, h2, h3⟩ := h.modes
  obtain ⟨b, o, e, hb, hc⟩ := h2.addr hp
  refine ⟨b, o, e, hb, fun k hk => ?_⟩
  obtain ⟨A, cp, ha, hr⟩ := h3 k hk
  exact ⟨A, cp, hc k _ ha, hr⟩
/-- A certificate's words. -/
def rowT (r : RowM) : List Int := [r.task, r.block, r.resp]
def rowsW (l : List RowM) : List Int := (l.length : Int) :: l.flatMap rowT
def spnW (s : Int × Int) : List Int := [s.1, s.2]
def wordsC (c : Crt) : List Int := (c.modes.length : Int) :: (c.modes.flatMap rowsW ++ ((c.edges.length : Int) :: c.edges.flatMap spnW))
theorem agg_cert : AggOf Tryd.prog 72 2 := ⟨by kernel_rfl, by kernel_rfl⟩
theorem cwords_any (cs : List Value) (w : World) : Calls Tryd.prog 98 #[.agg cs.toArray] w fun e w' =>
    e = .returned (.func (.func 109) #[] #[.pointer (some ⟨w.heap.size, 0, none⟩)]) ∧ w.alloc (.cells cs.toArray 72) = w' := by
  go_enter Tryd.func98, Tryd.ntmps98
  go_wp2
  go_ret
  exact ⟨rfl, rfl⟩
def encY (y : Int) : Array Value := #[.int .i64 y]
abbrev UsU : List Nat := [130, 30]
theorem take_flat {α β : Type} (f : α → List β) (l : List α) (k : Nat) (h : k < l.length) : (l.take (k + 1)).flatMap f = (l.take k).flatMap f ++ f l[k] := by
  rw [List.take_succ_eq_append_getElem h, List.flatMap_append]; simp
theorem drop_flat {α β : Type} (f : α → List β) (l : List α) (k : Nat) (h : k < l.length) : l.flatMap f = (l.take k).flatMap f ++ (f l[k] ++ (l.drop (k + 1)).flatMap f) := by
  conv => lhs; rw [← List.take_append_drop k l, List.drop_eq_getElem_cons h]
  rw [List.flatMap_append, List.flatMap_cons]
set_option maxRecDepth 100000 in
set_option maxHeartbeats 4000000 in
theorem cwords1_seq (n : Nat) (v : CrtV) (c : Crt) (w0 w : World) (hx : CrtAt w0 v c) (hw0 : Below w0.heap.size w0 w) (B : Nat) (hB : B < w.heap.size) (hb : Blk w B 72 (crtCells v c).toArray) :
    SeqT Fence.wide n Tryd.prog LoN 109 #[.pointer (some ⟨B, 0, none⟩)] encY (KpU UsU w0.heap.size (w.heap.size + 2)) (wordsC c) w := by
  intro l J Jx W hW hge hJ hJx hY h0
  have hB0 : w0.heap.size ≤ W.heap.size := by have := hw0.size; omega
  have hlow : Below w0.heap.size w0 W := hw0.trans (hW.mono hw0.size)
  have hR0 : ∀ m pre (y : Int) W1, J pre W1 → pre ++ [y] <+: wordsC c → YieldAt Fence.wide m Tryd.prog l #[.int .i64 y] W1 fun e W' =>
      (e = .returned (.bool true) ∧ J (pre ++ [y]) W' ∧ KpU UsU w0.heap.size (w.heap.size + 2) W1 W') ∨ (e = .returned (.bool false) ∧ Jx (pre ++ [y]) W' ∧ KpU UsU w0.heap.size (w.heap.size + 2) W1 W') := fun m pre y W1 hj hp => yieldAt_any open_wide (hY pre y W1 hj hp)
  clear hY
  have s0 : Blk W B 72 (crtCells v c).toArray := (hW.block B hB).trans hb
  have HX := Lib.hid hx
  have HC0 : ∀ w', Blk w' B 72 (crtCells v c).toArray → w'.cell? ⟨B, 0, none⟩ = some (.slice v.ma c.modes.length v.mc) ∧ w'.cell? ⟨B, 1, none⟩ = some (.slice v.ea c.edges.length v.ec) := fun w' h => ⟨by rw [h.cell]; rfl, by rw [h.cell]; rfl⟩
  have HLO : Hid (∀ w', Below w0.heap.size w0 w' → Keep [] w0 w') := fun w' h => keepB h
  have hlm := hx.lm
  have hle := hx.le
  have hlr := hx.lr
  have HMO : Hid (0 < c.modes.length → _) := fun h => hx.mode h
  have HWC : Hid (wordsC c = [(c.modes.length : Int)] ++ (c.modes.flatMap rowsW ++ ((c.edges.length : Int) :: c.edges.flatMap spnW))) := show _ = _ from rfl
  have HWL : Hid (∀ l : List RowM, rowsW l = [(l.length : Int)] ++ l.flatMap rowT) := fun l => rfl
  obtain ⟨c0, c1⟩ := HC0 W s0
  have HLR := Lib.hid hlr
  have HLM := Lib.hid hlm
  have HLE := Lib.hid hle
  clear hx hb hlr
  generalize (crtCells v c).toArray = cs at *
  rw [callsIn_wide, ← callsIn_wide (n := 9)]
  refine callsIn_of_wp Tryd.func109 rfl trivial ?_ rfl
  simp only [Tryd.ntmps109, List.size_toArray, List.length_cons, List.length_nil, Nat.reduceAdd, Nat.reduceSub, Array.replicate_succ, Array.replicate_zero, List.push_toArray, List.append_toArray, List.nil_append, List.cons_append]
  have hp1 := Lib.hid (show [] ++ [(c.modes.length : Int)] <+: wordsC c by rw [HWC.out]; exact ⟨_, rfl⟩)
  obtain ⟨fn, tmps, assign, body, hy, hR⟩ := hR0 8 [] (c.modes.length : Int) W h0 hp1.out
  gi_wp2
  refine hR.mono ?_
  rintro e w1 (⟨rfl, j1, kr⟩ | ⟨rfl, jx, kr⟩)
  rotate_left
  · gi_wp2
    refine bodyPost_ret (results_none rfl _ _ _) rfl ?_
    exact ⟨⟨_, rfl⟩, .inr ⟨_, hp1.out, jx⟩⟩
  have s1 := kr.blk s0 (by decide)
  have k1 : KpU UsU w0.heap.size (w.heap.size + 2) W w1 := kr
  obtain ⟨c0, c1⟩ := HC0 w1 s1
  have HM1 : Hid (∀ k, (hk : k < c.modes.length) → wordsC c = ([(c.modes.length : Int)] ++ (c.modes.take k).flatMap rowsW) ++ ([(c.modes[k].length : Int)] ++ (c.modes[k].flatMap rowT ++ ((c.modes.drop (k + 1)).flatMap rowsW ++ ((c.edges.length : Int) :: c.edges.flatMap spnW))))) := fun k hk => by
    rw [HWC.out, drop_flat rowsW c.modes k hk, HWL.out]
    simp only [List.append_assoc]
  have HM3 : Hid (∀ k, (hk : k < c.edges.length) → wordsC c = ([(c.modes.length : Int)] ++ (c.modes.flatMap rowsW ++ ([(c.edges.length : Int)] ++ (c.edges.take k).flatMap spnW))) ++ (spnW c.edges[k] ++ (c.edges.drop (k + 1)).flatMap spnW)) := fun k hk => by
    rw [HWC.out, drop_flat spnW c.edges k hk]
    simp only [List.append_assoc, List.cons_append, List.nil_append]
  clear hy hR kr s0 h0 hp1
  gi_wp2
  gi_loopw [18] (fun vi wr => ∃ k : Nat, k ≤ c.modes.length ∧ vi = .int .i64 (k : Int) ∧ J ([(c.modes.length : Int)] ++ (c.modes.take k).flatMap rowsW) wr ∧ Blk wr B 72 cs ∧ KpU UsU w0.heap.size (w.heap.size + 2) W wr) (fun i _ => c.modes.length - (intOf i).toNat)
  case atStart => exact ⟨0, Nat.zero_le _, rfl, by simpa using j1, s1, k1⟩
  case round =>
    clear j1 s1 k1 c0 c1
    obtain ⟨k, hk, rfl, hj, hbr, hkr⟩ := hrel
    have hlm := HLM.out
    by_cases hlt : k < c.modes.length
    · have HK := HLO.out wr (hlow.trans hkr.below)
      obtain ⟨bm, om, hma, hbm, hmo⟩ := HMO.out (by omega)
      obtain ⟨A, cp, hmc, hrd⟩ := hmo k hlt
      clear hmo
      have hmc := (HK.cell (p := ⟨bm, om + k, none⟩) hbm (by simp)).trans hmc
      have hrd := Lib.hid hrd
      have hlr := HLR.out _ (List.getElem_mem hlt)
      have hsuc := Lib.hid (take_flat rowsW c.modes k hlt)
      have hM := Lib.hid (HM1.out k hlt)
      rw [HWL.out] at hsuc
      obtain ⟨TL, hTL⟩ : ∃ TL, (c.modes.drop (k + 1)).flatMap rowsW ++ ((c.edges.length : Int) :: c.edges.flatMap spnW) = TL := ⟨_, rfl⟩
      rw [hTL] at hM
      clear hTL
      generalize c.modes[k] = R at *
      generalize (c.modes.take k).flatMap rowsW = pk at *
      rw [hma] at *
      have hp2 := Lib.hid (show (([(c.modes.length : Int)] ++ pk) ++ [(R.length : Int)]) <+: wordsC c by rw [hM.out, ← List.append_assoc]; exact ⟨_, rfl⟩)
      obtain ⟨fn, tmps, assign, body, hy, hR⟩ := hR0 8 _ (R.length : Int) _ hj hp2.out
      gi_wp2
      refine hR.mono ?_
      rintro e w2 (⟨rfl, j2, kr⟩ | ⟨rfl, jx, kr⟩)
      rotate_left
      · gi_wp2
        refine bodyPost_ret (results_none rfl _ _ _) rfl ?_
        exact ⟨⟨_, rfl⟩, .inr ⟨_, hp2.out, jx⟩⟩
      have s2 := kr.blk hbr (by decide)
      have k2 := hkr.trans kr
      clear hy hR hp2
      gi_wp2
      generalize wr = wo at *
      gi_loopw [29] (fun vi wr => ∃ j : Nat, j ≤ R.length ∧ vi = .int .i64 (j : Int) ∧ J ((([(c.modes.length : Int)] ++ pk) ++ [(R.length : Int)]) ++ (R.take j).flatMap rowT) wr ∧ Blk wr B 72 cs ∧ KpU UsU w0.heap.size (w.heap.size + 2) W wr) (fun i _ => R.length - (intOf i).toNat)
      case atStart => exact ⟨0, Nat.zero_le _, rfl, by simpa using j2, s2, k2⟩
      case round =>
        clear j2 s2 k2 kr hj hbr hkr HK hmc
        obtain ⟨j, hjl, rfl, hj, hbr, hkr⟩ := hrel
        by_cases hlj : j < R.length
        · have HK := HLO.out wr (hlow.trans hkr.below)
          obtain ⟨br, orr, hA, hbw, hrc⟩ := (hrd.out.keep0 HK).elems rfl (fun _ _ => rfl) (by omega)
          have hq := Lib.hid (hrc j hlj)
          have hMj : wordsC c = ((([(c.modes.length : Int)] ++ pk) ++ [(R.length : Int)]) ++ (R.take j).flatMap rowT) ++ (rowT R[j] ++ ((R.drop (j + 1)).flatMap rowT ++ TL)) := by
            rw [hM.out, drop_flat rowT R j hlj]
            simp only [List.append_assoc]
          have hsj : (([(c.modes.length : Int)] ++ pk) ++ [(R.length : Int)]) ++ (R.take (j + 1)).flatMap rowT = ((([(c.modes.length : Int)] ++ pk) ++ [(R.length : Int)]) ++ (R.take j).flatMap rowT) ++ rowT R[j] := by
            rw [take_flat rowT R j hlj, ← List.append_assoc]
          have hq : Hid (CellsAt wr br (orr + j * 3) [.int .i64 R[j].task, .int .i64 R[j].block, .int .i64 R[j].resp]) := hq
          simp only [rowT] at hMj hsj
          generalize (R.drop (j + 1)).flatMap rowT ++ TL = TL2 at *
          generalize ((([(c.modes.length : Int)] ++ pk) ++ [(R.length : Int)]) ++ (R.take j).flatMap rowT) = q at *
          generalize R[j].task = ra at *
          generalize R[j].block = rb at *
          generalize R[j].resp = rc at *
          have HMJ := Lib.hid hMj
          have HSJ := Lib.hid hsj
          have hjl0 : (j : Int) < (R.length : Int) := by omega
          have hj0 : (0 : Int) ≤ (j : Int) := by omega
          clear hrc hMj hsj
          obtain ⟨V, hV⟩ : ∃ V, wr.alloc (.cells #[.int .i64 ra, .int .i64 rb, .int .i64 rc] 78) = V := ⟨_, rfl⟩
          have KV : Keep [] wr V := by rw [← hV]; exact (Keep.refl _ wr).alloc _
          have dV : Blk V wr.heap.size 78 #[.int .i64 ra, .int .i64 rb, .int .i64 rc] := by rw [← hV]; exact Blk.new _ _ _
          have jV := hJ.k0 hj KV
          have kV := hkr.step KV (by simp) hB0
          have bV := hbr.keep0 KV
          have HV := Lib.hid hV
          clear hV
          have q0 := dV.cell 0
          have q1 := dV.cell 1
          have q2 := dV.cell 2
          simp at q0 q1 q2
          rw [hA] at *
          have hp3 := Lib.hid (show q ++ [ra] <+: wordsC c by rw [HMJ.out]; exact ⟨rb :: rc :: TL2, by simp⟩)
          obtain ⟨fn, tmps, assign, body, hy, hR⟩ := hR0 8 _ ra _ jV hp3.out
          gi_wp2_with (first | rw [HV.out] | (refine wpListIn_agg rfl 78 (.tmp 31) rfl rfl (cs := [.int .i64 ra, .int .i64 rb, .int .i64 rc]) agg_row hq.out ?_))
          refine hR.mono ?_
          rintro e w3 (⟨rfl, j3, kr⟩ | ⟨rfl, jx, kr⟩)
          rotate_left
          · gi_wp2
            refine ⟨fun _ h => (by cases h), ?_⟩
            gi_wp2
            refine bodyPost_ret (results_none rfl _ _ _) rfl ?_
            exact ⟨⟨_, rfl⟩, .inr ⟨_, hp3.out, jx⟩⟩
          have d3 := kr.blk dV (by decide)
          have k3 := kV.trans kr
          have b3 := kr.blk bV (by decide)
          clear q0 q1 q2 hy hR kr
          have q1 := d3.cell 1
          have q2 := d3.cell 2
          simp at q1 q2
          have hp4 := Lib.hid (show (q ++ [ra]) ++ [rb] <+: wordsC c by rw [HMJ.out]; exact ⟨rc :: TL2, by simp⟩)
          obtain ⟨fn, tmps, assign, body, hy, hR⟩ := hR0 8 _ rb _ j3 hp4.out
          gi_wp2
          refine hR.mono ?_
          rintro e w4 (⟨rfl, j4, kr⟩ | ⟨rfl, jx, kr⟩)
          rotate_left
          · gi_wp2
            refine ⟨fun _ h => (by cases h), ?_⟩
            gi_wp2
            refine bodyPost_ret (results_none rfl _ _ _) rfl ?_
            exact ⟨⟨_, rfl⟩, .inr ⟨_, hp4.out, jx⟩⟩
          have d4 := kr.blk d3 (by decide)
          have k4 := k3.trans kr
          have b4 := kr.blk b3 (by decide)
          clear q1 q2 hy hR kr
          have q2 := d4.cell 2
          simp at q2
          have hp5 := Lib.hid (show ((q ++ [ra]) ++ [rb]) ++ [rc] <+: wordsC c by rw [HMJ.out]; exact ⟨TL2, by simp⟩)
          obtain ⟨fn, tmps, assign, body, hy, hR⟩ := hR0 8 _ rc _ j4 hp5.out
          gi_wp2
          refine hR.mono ?_
          rintro e w5 (⟨rfl, j5, kr⟩ | ⟨rfl, jx, kr⟩)
          rotate_left
          · gi_wp2
            refine bodyPost_ret (results_none rfl _ _ _) rfl ?_
            exact ⟨⟨_, rfl⟩, .inr ⟨_, hp5.out, jx⟩⟩
          have k5 := k4.trans kr
          have b5 := kr.blk b4 (by decide)
          gi_wp2
          go_roundw
          case rel => exact ⟨j + 1, by omega, by go_num, by rw [HSJ.out]; simpa using j5, b5, k5⟩
          case measure => simp [intOf] <;> omega
        · obtain rfl : j = R.length := by omega
          gi_wp2
          go_roundw
          case rel => exact ⟨k + 1, by omega, by go_num, by rw [hsuc.out]; simpa using hj, hbr, hkr⟩
          case measure => simp [intOf] <;> omega
    · obtain rfl : k = c.modes.length := by omega
      rw [List.take_length] at hj
      obtain ⟨c0, c1⟩ := HC0 wr hbr
      have hp6 := Lib.hid (show ([(c.modes.length : Int)] ++ c.modes.flatMap rowsW) ++ [(c.edges.length : Int)] <+: wordsC c by rw [HWC.out]; exact ⟨c.edges.flatMap spnW, by simp⟩)
      obtain ⟨fn, tmps, assign, body, hy, hR⟩ := hR0 8 _ (c.edges.length : Int) _ hj hp6.out
      gi_wp2
      refine hR.mono ?_
      rintro e w6 (⟨rfl, j6, kr⟩ | ⟨rfl, jx, kr⟩)
      rotate_left
      · gi_wp2
        refine bodyPost_ret (results_none rfl _ _ _) rfl ?_
        exact ⟨⟨_, rfl⟩, .inr ⟨_, hp6.out, jx⟩⟩
      have s6 := kr.blk hbr (by decide)
      have k6 := hkr.trans kr
      clear hy hR hp6 c0 c1
      obtain ⟨c0, c1⟩ := HC0 w6 s6
      gi_wp2
      gi_loopw [63] (fun vi wr => ∃ j : Nat, j ≤ c.edges.length ∧ vi = .int .i64 (j : Int) ∧ J ([(c.modes.length : Int)] ++ (c.modes.flatMap rowsW ++ ([(c.edges.length : Int)] ++ (c.edges.take j).flatMap spnW))) wr ∧ Blk wr B 72 cs ∧ KpU UsU w0.heap.size (w.heap.size + 2) W wr) (fun i _ => c.edges.length - (intOf i).toNat)
      case atStart => exact ⟨0, Nat.zero_le _, rfl, by simpa using j6, s6, k6⟩
      case round =>
        clear j6 s6 k6 kr hj hbr hkr c0 c1
        obtain ⟨j, hjl, rfl, hj, hbr, hkr⟩ := hrel
        have hle := HLE.out
        by_cases hlj : j < c.edges.length
        · have HK := HLO.out wr (hlow.trans hkr.below)
          obtain ⟨br, orr, hA, hbw, hrc⟩ := (HX.out.edges.keep0 HK).elems rfl (fun _ _ => rfl) (by omega)
          have hq := Lib.hid (hrc j hlj)
          have hMj := HM3.out j hlj
          have hsj : [(c.modes.length : Int)] ++ (c.modes.flatMap rowsW ++ ([(c.edges.length : Int)] ++ (c.edges.take (j + 1)).flatMap spnW)) = ([(c.modes.length : Int)] ++ (c.modes.flatMap rowsW ++ ([(c.edges.length : Int)] ++ (c.edges.take j).flatMap spnW))) ++ spnW c.edges[j] := by
            rw [take_flat spnW c.edges j hlj]
            simp only [List.append_assoc]
          have hq : Hid (CellsAt wr br (orr + j * 2) [.int .i64 c.edges[j].1, .int .i64 c.edges[j].2]) := hq
          simp only [spnW] at hMj hsj
          generalize List.flatMap spnW (c.edges.drop (j + 1)) = TL2 at *
          generalize [(c.modes.length : Int)] ++ (c.modes.flatMap rowsW ++ ([(c.edges.length : Int)] ++ (c.edges.take j).flatMap spnW)) = q at *
          generalize c.edges[j].1 = ra at *
          generalize c.edges[j].2 = rb at *
          have HMJ := Lib.hid hMj
          have HSJ := Lib.hid hsj
          have hjl0 : (j : Int) < (c.edges.length : Int) := by omega
          have hj0 : (0 : Int) ≤ (j : Int) := by omega
          clear hrc hMj hsj
          obtain ⟨V, hV⟩ : ∃ V, wr.alloc (.cells #[.int .i64 ra, .int .i64 rb] 49) = V := ⟨_, rfl⟩
          have KV : Keep [] wr V := by rw [← hV]; exact (Keep.refl _ wr).alloc _
          have dV : Blk V wr.heap.size 49 #[.int .i64 ra, .int .i64 rb] := by rw [← hV]; exact Blk.new _ _ _
          have jV := hJ.k0 hj KV
          have kV := hkr.step KV (by simp) hB0
          have bV := hbr.keep0 KV
          have HV := Lib.hid hV
          clear hV
          have q0 := dV.cell 0
          have q1 := dV.cell 1
          simp at q0 q1
          rw [hA] at *
          have hp7 := Lib.hid (show q ++ [ra] <+: wordsC c by rw [HMJ.out]; exact ⟨rb :: TL2, by simp⟩)
          obtain ⟨fn, tmps, assign, body, hy, hR⟩ := hR0 8 _ ra _ jV hp7.out
          gi_wp2_with (first | rw [HV.out] | (refine wpListIn_agg rfl 49 (.tmp 65) rfl rfl (cs := [.int .i64 ra, .int .i64 rb]) agg_span hq.out ?_))
          refine hR.mono ?_
          rintro e w7 (⟨rfl, j7, kr⟩ | ⟨rfl, jx, kr⟩)
          rotate_left
          · gi_wp2
            refine ⟨fun _ h => (by cases h), ?_⟩
            gi_wp2
            refine bodyPost_ret (results_none rfl _ _ _) rfl ?_
            exact ⟨⟨_, rfl⟩, .inr ⟨_, hp7.out, jx⟩⟩
          have d7 := kr.blk dV (by decide)
          have k7 := kV.trans kr
          have b7 := kr.blk bV (by decide)
          clear q0 q1 hy hR kr
          have q1 := d7.cell 1
          simp at q1
          have hp8 := Lib.hid (show (q ++ [ra]) ++ [rb] <+: wordsC c by rw [HMJ.out]; exact ⟨TL2, by simp⟩)
          obtain ⟨fn, tmps, assign, body, hy, hR⟩ := hR0 8 _ rb _ j7 hp8.out
          gi_wp2
          refine hR.mono ?_
          rintro e w8 (⟨rfl, j8, kr⟩ | ⟨rfl, jx, kr⟩)
          rotate_left
          · gi_wp2
            refine bodyPost_ret (results_none rfl _ _ _) rfl ?_
            exact ⟨⟨_, rfl⟩, .inr ⟨_, hp8.out, jx⟩⟩
          have k8 := k7.trans kr
          have b8 := kr.blk b7 (by decide)
          gi_wp2
          go_roundw
          case rel => exact ⟨j + 1, by omega, by go_num, by rw [HSJ.out]; simpa using j8, b8, k8⟩
          case measure => simp [intOf] <;> omega
        · obtain rfl : j = c.edges.length := by omega
          rw [List.take_length] at hj
          gi_wp2
          go_end0
          exact ⟨⟨_, rfl⟩, .inl (by rw [HWC.out]; exact hj)⟩
end Go.Proofs.YtggjhjbcdnffnaaDoor

namespace Go.Proofs.YtggjhjbcdnffnaaDoor
open Go.RowKit
attribute [local go_sem] Oper.semAt_some

theorem flat_le {α β : Type} (f : α → List β) (n : Nat) : ∀ l : List α, (∀ a ∈ l, (f a).length ≤ n) → (l.flatMap f).length ≤ n * l.length
  | [], _ => by simp
  | a :: l, h => by
    rw [List.flatMap_cons, List.length_append, List.length_cons, Nat.mul_add]
    have h1 := h a (by simp)
    have h2 := flat_le f n l (fun b hb => h b (by simp [hb]))
    omega
theorem wordsC_len {w : World} {v : CrtV} {c : Crt} (h : CrtAt w v c) : (wordsC c).length ≤ 40000 := by
  unfold wordsC
  have h1 := flat_le rowsW 301 c.modes (fun r hr => by
    have h2 := h.lr r hr
    have h3 := flat_le rowT 3 r (fun _ _ => by simp [rowT])
    simp only [rowsW, List.length_cons]
    omega)
  have h2 := flat_le spnW 2 c.edges (fun _ _ => by simp [spnW])
  have h3 := h.lm
  have h4 := h.le
  simp only [List.length_cons, List.length_append]
  omega
theorem slice_u32W : SliceOf Tryd.prog 130 30 1 4 := ⟨Tryd.underlying130, by kernel_rfl, by decide⟩
/-- A row of words is answered. -/
def RetWords (w : World) (l : List Int) (e : Ending) (w' : World) : Prop :=
  ∃ A c, e = .returned (.slice A l.length c) ∧ w'.ownsRow w.heap.size 30 1 (.slice A l.length c) l.length (wordV l) ∧ Keep [] w w'
theorem wordV_snoc (l : List Int) (y : Int) : wordV (l ++ [y]) = wordV l ++ [u32v y] := by rw [wordV_append]; rfl
set_option maxRecDepth 100000 in
set_option maxHeartbeats 2000000 in
theorem words_any (v : CrtV) (c : Crt) (w : World) (h : CrtAt w v c) :
    Calls Tryd.prog 68 #[.agg (crtCells v c).toArray] w (RetWords w (wordsC c)) := by
  rw [← callsIn_wide (n := 9)]
  refine callsIn_of_wp_marks Tryd.func68 rfl trivial ?_ rfl
  simp only [Tryd.ntmps68, List.size_toArray, List.length_cons, List.length_nil, Nat.reduceAdd, Nat.reduceSub, Array.replicate_succ, Array.replicate_zero, List.push_toArray, List.append_toArray, List.nil_append, List.cons_append]
  obtain ⟨W1, hW1⟩ : ∃ W1, (w.alloc (.cells (crtCells v c).toArray 72)).alloc (.cells #[.slice none 0 0] 130) = W1 := ⟨_, rfl⟩
  have c0 : Blk W1 w.heap.size 72 (crtCells v c).toArray := by rw [← hW1]; exact (Blk.new _ _ _).alloc _
  have c1 : Blk W1 (w.heap.size + 1) 130 #[.slice none 0 0] := by rw [← hW1]; exact Blk.new1 _ _ _ _
  have hsz1 : W1.heap.size = w.heap.size + 2 := by rw [← hW1]; simp
  have K1 : Keep [] w W1 := by rw [← hW1]; exact ((Keep.refl _ w).alloc _).alloc _
  have HSL : Hid ((crtCells v c).length = 2) := show _ = _ from rfl
  have HCA : Hid (CellsAt W1 w.heap.size 0 (crtCells v c)) := c0.cellsAt
  have HL0 := fun cs w => Lib.hid (cwords_any cs w)
  have HSS := fun Bs W0 hw0 hBs hbs => Lib.hid (cwords1_seq 8 v c w W0 h hw0 Bs hBs hbs)
  have HLL := Lib.hid (wordsC_len h)
  have HW := Lib.hid hW1
  clear hW1 h
  generalize crtCells v c = sc at *
  gi_wp2_with (first
    | rw [HW.out]
    | (refine wpListIn_agg rfl 72 (.tmp 1) rfl rfl (cs := sc) (by rw [HSL.out]; exact agg_cert) HCA.out ?_)
    | (refine ⟨trivial, ?_⟩; gi_at_call 98; refine (callsIn_wide.2 (HL0 _ _).out).mono ?_; rintro e w' ⟨rfl, rfl⟩))
  obtain ⟨W0, hW0⟩ : ∃ W0, W1.alloc (.cells sc.toArray 72) = W0 := ⟨_, rfl⟩
  have hsz : W0.heap.size = w.heap.size + 3 := by rw [← hW0]; simp [hsz1]
  have b1 : Blk W0 (w.heap.size + 1) 130 #[.slice none 0 0] := by rw [← hW0]; exact c1.alloc _
  have b2 : Blk W0 (w.heap.size + 2) 72 sc.toArray := by rw [← hW0, ← hsz1]; exact Blk.new _ _ _
  have K0 : Keep [] w W0 := by rw [← hW0]; exact K1.alloc _
  simp only [hW0]
  have hss := (HSS (w.heap.size + 2) W0 K0.below (by omega) b2).out
  clear HW HCA c0 c1 K1 HSS HL0 hW0
  refine wpIn_rangeT (F := Fence.wide) (n := 9) (Lo := LoN) (ps := #[7]) rfl (by omega) (gf := 109) (lb := #[.pointer (some ⟨w.heap.size + 2, 0, none⟩)]) rfl trivial (enters_of Tryd.func109 (by kernel_rfl) rfl)
    hss KpU.trans (fun W o o' h1 h2 => kpu_put o' (by omega) (by omega) h1 h2) (Below.refl _ _) (fun _ => rfl)
    (fun pre W' => ∃ V, Blk W' (w.heap.size + 1) 130 #[V] ∧ W'.ownsRow W0.heap.size 30 1 V pre.length (wordV pre) ∧ Keep [w.heap.size + 1] W0 W')
    (fun _ _ _ => False)
    (box_rowT (β := List Int) (show w.heap.size + 1 < W0.heap.size by omega) (fun pre => pre.length) wordV) (fun _ _ _ _ _ hs _ _ => hs) ⟨_, b1, World.ownsRow_nil _ _ _ _, Keep.refl _ _⟩
    (fun y => { tmps := #[.agg sc.toArray, .pointer (some ⟨w.heap.size, 0, none⟩), .slice none 0 0, .pointer (some ⟨w.heap.size + 1, 0, none⟩), .int .i64 y, .agg sc.toArray,
      .func (.func 109) #[] #[.pointer (some ⟨w.heap.size + 2, 0, none⟩)], .int .i64 y,
      undef, undef, undef, undef, undef, undef], defers := [] }) ?assign ?body ?done ?stop
  case assign =>
    intro l i W K hK
    simp only [encY]
    gi_wp2
    exact hK
  case body =>
    rintro l pre y W ⟨V, hv, hrow, hK⟩ hpre
    have hcv := hv.cell 0
    have hcf := hv.frozen 0
    simp at hcv
    obtain ⟨A, cp, rfl⟩ := own_shape hrow
    have hne := own_blk_ne hrow hv (by decide)
    have hB : W0.heap.size ≤ W.heap.size := hK.size
    have hlen := hpre.length_le
    simp only [List.length_append, List.length_cons, List.length_nil] at hlen
    have hal := HLL.out
    gi_wp2_with (gi_at_builtin; refine wpListIn_append_one rfl (.tmp 8) (.tmp 11) 130 rfl slice_u32W hrow rfl rfl (us := [u32v y]) rfl (by simp [u32v, Value.oneCell']) hB (by omega) (by unfold maxLen; omega) ?_; intro v' w1 hown1 hk1 hat1; obtain ⟨A', c', rfl⟩ := own_shape hown1; have hv1 := hv.keep hk1 (by simpa using hne); have hc1 := hv1.cell 0; have hf1 := hv1.frozen 0; simp at hc1)
    obtain ⟨n1, n2, n3⟩ := boxed_append hrow hv (by decide) hk1 hown1
    have hlt' := fun z hz => (hrow.lt z (by simpa using hz)).1
    refine ⟨n3.from (fun z hz => ?_), kpu_of n3 (fun z hz => ?_) (by omega), _, n1, ?_, ?_⟩
    · rcases List.mem_cons.1 hz with rfl | hz
      · exact .inl (by omega)
      · exact .inr (own_cells hrow z hz)
    · rcases List.mem_cons.1 hz with rfl | hz
      · exact ⟨by omega, _, _, _, hv, by decide⟩
      · obtain ⟨cs, fr, h1⟩ := row_typed hrow z hz
        exact ⟨by have := hlt' z (by simpa using hz); omega, cs, _, fr, h1, by decide⟩
    · rw [List.length_append, wordV_snoc]
      exact n2
    · exact hK.trans n3 (fun y hy hlt => by
        rcases List.mem_cons.1 hy with rfl | hy
        · simp
        · have := hlt' y (by simpa using hy); omega)
  case done =>
    rintro D W hD ⟨V, hv, hrow, hK⟩ hD2
    have hcv := hv.cell 0
    simp at hcv
    obtain ⟨A, cp, rfl⟩ := own_shape hrow
    have hne : D ∉ (Value.slice A (wordsC c).length cp).ownBlock.toList := fun hm => by
      obtain ⟨cs, fr, h1⟩ := row_typed hrow D hm
      rw [hD2] at h1; cases h1
    gi_wp2
    refine ⟨by simp, .inl ⟨_, _, rfl, run_takeDeferred hD2, ?_⟩⟩
    refine ⟨_, results_tmp rfl _ _ _, A, cp, rfl, ?_, ?_⟩
    · exact own_base (own_keep hrow (keep_putObj W D (.deferred none)) (fun y hy hm => hne (by simp at hm; subst hm; simpa using hy))) (by omega)
    · exact (K0.trans hK (fun y hy hlt => by simp at hy; omega)).trans (keep_putObj W D (.deferred none)) (fun y hy hlt => by simp at hy; omega)
  case stop => exact fun _ _ _ _ _ _ h _ => h.elim
end Go.Proofs.YtggjhjbcdnffnaaDoor

namespace Go.Proofs.YtggjhjbcdnffnaaDoor
open Go.RowKit
attribute [local go_sem] Oper.semAt_some

/-- Words, as they are kept. -/
def modW (l : List Int) : List Int := l.map (· % 4294967296)
def uwc (l : List Int) : List Value := l.map (fun n => Value.int .u32 n)
theorem modW_len (l : List Int) : (modW l).length = l.length := List.length_map ..
theorem wordV_uwc (l : List Int) : wordV l = uwc (modW l) := by
  unfold wordV uwc modW
  rw [List.map_map]; rfl
theorem uwc_at {w : World} {A : Option Addr} {l : List Int} (h : Reads w 1 A l.length (uwc l)) (h0 : 0 < l.length) : ∃ b o, A = some ⟨b, o, none⟩ ∧ b < w.heap.size ∧ ∀ k, (hk : k < l.length) → w.cell? ⟨b, o + k, none⟩ = some (.int .u32 l[k]) := by
  obtain ⟨b, o, e, hb, hc⟩ := h.addr h0
  exact ⟨b, o, e, hb, fun k hk => hc k _ (by rw [uwc, List.getElem?_map, List.getElem?_eq_getElem hk]; rfl)⟩
def eqW (a b : List Int) : Bool := decide (modW a = modW b)
theorem eqW_refl (a : List Int) : eqW a a = true := decide_eq_true rfl

set_option maxRecDepth 100000 in
set_option maxHeartbeats 2000000 in
theorem same_any (va vb : CrtV) (a b : Crt) (w : World) (ha : CrtAt w va a) (hb : CrtAt w vb b) :
    Calls Tryd.prog 35 #[.agg (crtCells va a).toArray, .agg (crtCells vb b).toArray] w fun e w' => e = .returned (.bool (eqW (wordsC a) (wordsC b))) ∧ Keep [] w w' := by
  obtain ⟨W0, hW0⟩ : ∃ W0, (w.alloc (.cells (crtCells va a).toArray 72)).alloc (.cells (crtCells vb b).toArray 72) = W0 := ⟨_, rfl⟩
  have c0 : Blk W0 w.heap.size 72 (crtCells va a).toArray := by rw [← hW0]; exact (Blk.new _ _ _).alloc _
  have c1 : Blk W0 (w.heap.size + 1) 72 (crtCells vb b).toArray := by rw [← hW0]; exact Blk.new1 _ _ _ _
  have K0 : Keep [] w W0 := by rw [← hW0]; exact ((Keep.refl _ w).alloc _).alloc _
  have HSA : Hid ((crtCells va a).length = 2) := show _ = _ from rfl
  have HSB : Hid ((crtCells vb b).length = 2) := show _ = _ from rfl
  have HCA : ∀ w', Keep [] W0 w' → CellsAt w' w.heap.size 0 (crtCells va a) := fun w' k => (c0.keep0 k).cellsAt
  have HCB : ∀ w', Keep [] W0 w' → CellsAt w' (w.heap.size + 1) 0 (crtCells vb b) := fun w' k => (c1.keep0 k).cellsAt
  have HWA := fun w' (k : Keep [] W0 w') => Lib.hid (words_any va a w' (ha.keep0 (K0.then k)))
  have HWB := fun w' (k : Keep [] W0 w') => Lib.hid (words_any vb b w' (hb.keep0 (K0.then k)))
  have hla := wordsC_len ha
  have hlb := wordsC_len hb
  have HEQ : Hid (eqW (wordsC a) (wordsC b) = decide (modW (wordsC a) = modW (wordsC b))) := show _ = _ from rfl
  have hma := modW_len (wordsC a)
  have hmb := modW_len (wordsC b)
  have HLA := Lib.hid hla
  have HLB := Lib.hid hlb
  have HW := Lib.hid hW0
  have HK0 := Lib.hid K0
  clear ha hb hW0 K0 c0 c1
  generalize crtCells va a = sa at *
  generalize crtCells vb b = sb at *
  generalize wordsC a = wa at *
  generalize wordsC b = wb at *
  go_enter Tryd.func35, Tryd.ntmps35
  have HMA := Lib.hid hma
  have HMB := Lib.hid hmb
  clear hla hlb hma hmb
  go_wp2_with (rw [HW.out])
  refine ap_begin 5 (Keep [] W0) rfl (Keep.refl _ _).drew (fun hS hPan => ?_) (fun _ _ d _ _ h => by cases d <;> exact h)
  refine ap_agg 0 72 (.tmp 2) sa rfl (by kernel_rfl) (by kernel_rfl) (by kernel_rfl) (by kernel_rfl) (by rfl) hPan rfl rfl (by rw [HSA.out]; exact agg_cert) HCA hS ?_
  (simp only [Act.put, List.setIfInBounds_toArray, List.set_cons_zero, List.set_cons_succ])
  refine ap_agg 2 72 (.tmp 3) sb rfl (by kernel_rfl) (by kernel_rfl) (by kernel_rfl) (by kernel_rfl) (by rfl) hPan rfl rfl (by rw [HSB.out]; exact agg_cert) HCB hS ?_
  (simp only [Act.put, List.setIfInBounds_toArray, List.set_cons_zero, List.set_cons_succ])
  refine ap_one 1 (by kernel_rfl) ?_
  refine op_call (f := 68) (vs := #[.agg sa.toArray]) 1 rfl (by rfl) rfl (by simp only [List.map_toArray, List.map_cons, List.map_nil]; rfl) Tryd.func68 (by kernel_rfl) (by kernel_rfl) (HWA _ hS).out ?_
  rintro e w1 ⟨A1, p1, rfl, o1, k1⟩
  replace hS := hS.then k1
  refine ⟨_, rfl, fun _ => hS, ?_⟩
  clear k1
  (simp only [Act.put, List.setIfInBounds_toArray, List.set_cons_zero, List.set_cons_succ])
  refine ap_one 3 (by kernel_rfl) ?_
  refine op_call (f := 68) (vs := #[.agg sb.toArray]) 3 rfl (by rfl) rfl (by simp only [List.map_toArray, List.map_cons, List.map_nil]; rfl) Tryd.func68 (by kernel_rfl) (by kernel_rfl) (HWB _ hS).out ?_
  rintro e w2 ⟨A2, p2, rfl, o2, k2⟩
  have r1 := (Reads.of_own o1).keep0 k2
  have r2 := Reads.of_own o2
  replace hS := hS.then k2
  refine ⟨_, rfl, fun _ => hS, ?_⟩
  rw [wordV_uwc] at r1 r2
  have hma := HMA.out
  have hmb := HMB.out
  rw [← hma] at r1
  rw [← hmb] at r2
  rw [← hma, ← hmb]
  have hla : (modW wa).length ≤ 40000 := by rw [hma]; exact HLA.out
  have hlb : (modW wb).length ≤ 40000 := by rw [hmb]; exact HLB.out
  clear k2 o1 o2 HMA HMB HLA HLB hma hmb
  generalize modW wa = la at *
  generalize modW wb = lb at *
  (simp only [Act.put, List.setIfInBounds_toArray, List.set_cons_zero, List.set_cons_succ])
  refine ap_one 4 (by kernel_rfl) ?_
  refine op_run (v := .slice A1 la.length p1) (w' := w2) 4 rfl (by rfl) (by go_simp) ?_
  refine ⟨fun _ => hS, ?_⟩
  (simp only [Act.put, List.setIfInBounds_toArray, List.set_cons_zero, List.set_cons_succ])
  refine ap_one 5 (by kernel_rfl) ?_
  refine op_run (v := .slice A2 lb.length p2) (w' := w2) 5 rfl (by rfl) (by go_simp) ?_
  refine ⟨fun _ => hS, ap_done (by kernel_rfl) ?_ _⟩
  (simp only [Act.put, List.setIfInBounds_toArray, List.set_cons_zero, List.set_cons_succ])
  have HKE := Lib.hid (HK0.out.then hS)
  clear hS hPan HWA HWB HCA HCB
  by_cases hl : la.length = lb.length
  · have hln : ((la.length : Int) != (lb.length : Int)) = false := by simp; omega
    have HA := Lib.hid r1
    have HB := Lib.hid r2
    have HL := Lib.hid hl
    clear r1 r2 hl
    go_wp2
    clear hln
    go_loopw [19] (fun vi wr => ∃ k : Nat, k ≤ la.length ∧ vi = .int .i64 (k : Int) ∧ la.take k = lb.take k ∧ Keep [] w2 wr) (fun vi _ => la.length - (intOf vi).toNat)
    case atStart => exact ⟨0, Nat.zero_le _, rfl, rfl, Keep.refl _ _⟩
    case round =>
      obtain ⟨k, hk, rfl, ht, hK⟩ := hrel
      by_cases hlt : k < la.length
      · have hl2 := HL.out
        have hlt2 : k < lb.length := by omega
        obtain ⟨b1, o1, hA1, hb1, hc1⟩ := uwc_at (HA.out.keep0 hK) (by omega)
        obtain ⟨b2, o2, hB1, hb2, hc2⟩ := uwc_at (HB.out.keep0 hK) (by omega)
        have q1 := hc1 k hlt
        have q2 := hc2 k hlt2
        have HT1 : Hid (la.take (k + 1) = la.take k ++ [la[k]]) := by show _ = _; rw [List.take_succ_eq_append_getElem hlt]
        have HT2 : Hid (lb.take (k + 1) = lb.take k ++ [lb[k]]) := by show _ = _; rw [List.take_succ_eq_append_getElem hlt2]
        have HNE : Hid (la[k] ≠ lb[k] → la ≠ lb) := fun h e => h (by subst e; rfl)
        have hk0 : (0 : Int) ≤ (k : Int) := by omega
        have hk1 : (k : Int) < (la.length : Int) := by omega
        have hk2 : (k : Int) < (lb.length : Int) := by omega
        have hF : ∀ w', Keep [] wr w' → w'.cell? ⟨b1, o1 + k, none⟩ = some (.int .u32 la[k]) ∧ w'.cell? ⟨b2, o2 + k, none⟩ = some (.int .u32 lb[k]) := fun w' hk' => ⟨(hk'.cell (p := ⟨b1, o1 + k, none⟩) hb1 (by simp)).trans q1, (hk'.cell (p := ⟨b2, o2 + k, none⟩) hb2 (by simp)).trans q2⟩
        rw [hA1, hB1] at *
        clear hc1 hc2 q1 q2 hl2
        generalize la[k] = ya at *
        generalize lb[k] = yb at *
        go_wp2
        refine wp_region_flow (Keep [] wr) rfl (by kernel_rfl) (Keep.refl _ _).drew ?_
        repeat (refine fl_val (v := ?_) (by rfl) ?_ ?_; rotate_left; (intro w' hS; obtain ⟨f1,f2⟩ := hF w' hS; go_simp; with_reducible rfl); simp only [Act.put, List.setIfInBounds_toArray, List.set_cons_zero, List.set_cons_succ])
        refine fl_nil ?_
        intro w' hS
        clear hF
        by_cases he : ya = yb
        · have hn : (ya != yb) = false := by simpa using he
          go_wp2
          go_roundw
          case rel => exact ⟨k + 1, by omega, by go_num, by rw [HT1.out, HT2.out, ht, he], hK.then hS⟩
          case measure => simp [intOf] <;> omega
        · have hn : (ya != yb) = true := by simpa using he
          have HD : Hid (decide (la = lb) = false) := by show _ = _; exact decide_eq_false (HNE.out he)
          clear he
          go_wp2
          go_ret
          exact ⟨by rw [HEQ.out, HD.out]; rfl, HKE.out.then (hK.then hS)⟩
      · obtain rfl : k = la.length := by omega
        have HD : Hid (decide (la = lb) = true) := by
          show _ = _
          rw [List.take_length, List.take_of_length_le (by have := HL.out; omega)] at ht
          exact decide_eq_true ht
        clear ht
        go_wp2
        go_ret
        exact ⟨by rw [HEQ.out, HD.out]; rfl, HKE.out.then hK⟩
  · have hln : ((la.length : Int) != (lb.length : Int)) = true := by simp; omega
    have HD : Hid (decide (la = lb) = false) := by show _ = _; exact decide_eq_false (fun e => hl (by rw [e]))
    clear hl r1 r2
    go_wp2
    go_ret
    exact ⟨by rw [HEQ.out, HD.out]; rfl, HKE.out⟩
end Go.Proofs.YtggjhjbcdnffnaaDoor
