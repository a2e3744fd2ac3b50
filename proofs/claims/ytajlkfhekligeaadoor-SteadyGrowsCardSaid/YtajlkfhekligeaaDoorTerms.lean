/- The terms of a set of an image's tasks (demand). Condition: the table of math/bits lies where the program's text lays it. -/
import Derived.Test.YtajlkfhekligeaaDoorPend
import Derived.Test.YtajlkfhekligeaaDoorMaskAll
import Derived.Test.YtajlkfhekligeaaDoorWork
import Derived.Test.YtajlkfhekligeaaDoorImgA
namespace Go.Proofs.YtajlkfhekligeaaDoor
open Go.RowKit
attribute [local go_sem] Oper.semAt_some noOut_normal

theorem slice_trm : SliceOf Tryd.prog 110 113 4 32 := ⟨Tryd.underlying110, by kernel_rfl, by decide⟩
/-- The terms of a set of tasks. -/
def termAt (l : List Tsk) (i : Nat) : List Trm := match l[i]? with | some t => [trmOf t] | none => []
def termsIn (l : List Tsk) (is : List Nat) : List Trm := is.flatMap (termAt l)
def termsOf (l : List Tsk) (s : Nat) : List Trm := termsIn l (bitsL s)
theorem termsIn_snoc (l : List Tsk) (is : List Nat) (i : Nat) : termsIn l (is ++ [i]) = termsIn l is ++ termAt l i := by simp [termsIn]
theorem termAt_le (l : List Tsk) (i : Nat) : (termAt l i).length ≤ 1 := by unfold termAt; split <;> simp
theorem termsIn_le (l : List Tsk) : ∀ is : List Nat, (termsIn l is).length ≤ is.length
  | [] => by simp [termsIn]
  | i :: is => by
    have h1 := termAt_le l i
    have h2 := termsIn_le l is
    unfold termsIn at *
    rw [List.flatMap_cons, List.length_append, List.length_cons]
    omega
theorem termsOf_le (l : List Tsk) (s : Nat) : (termsOf l s).length ≤ 32 := Nat.le_trans (termsIn_le l _) (bitsL_le s)
def RetTrms (w : World) (l : List Trm) (e : Ending) (w' : World) : Prop :=
  ∃ A c, e = .returned (.slice A l.length c) ∧ w'.ownsRow w.heap.size 113 4 (.slice A l.length c) l.length (l.flatMap trmCells) ∧ Keep [] w w'

set_option maxRecDepth 100000 in
set_option maxHeartbeats 1000000 in
theorem terms_any (v : ImgV) (x : Img) (s : Nat) (w : World) (hT : Tab w) (h : ImgAt w v x) (hs : s < 4294967296) :
    Calls Tryd.prog 52 #[.agg (imgCells v x).toArray, .int .u32 (s : Int)] w (RetTrms w (termsOf x.tasks s)) := by
  rw [← callsIn_wide (n := 9)]
  refine callsIn_of_wp_marks Tryd.func52 rfl trivial ?_ rfl
  simp only [Tryd.ntmps52, List.size_toArray, List.length_cons, List.length_nil, Nat.reduceAdd, Nat.reduceSub, Array.replicate_succ, Array.replicate_zero, List.push_toArray, List.append_toArray, List.nil_append, List.cons_append]
  have HL := Lib.hid h.lt
  have HI := Lib.hid h
  have HTb := Lib.hid hT
  have hI1 : Hid (∀ g W, Blk W g 26 (imgCells v x).toArray → W.cell? ⟨g, 1, none⟩ = some (.slice v.ta x.tasks.length v.tc)) := fun g W hb => img_c1 hb
  clear h hT
  generalize hcs : (imgCells v x).toArray = cs at *
  gi_wp2_with (refine ⟨trivial, ?_⟩; gi_at_call 59; refine (callsIn_wide.2 (maskAll_any s _)).mono ?_; rintro e w' ⟨rfl, rfl⟩)
  obtain ⟨W0, hW0⟩ : ∃ W0, ((w.alloc (.cells cs 26)).alloc (.cells #[.slice none 0 0] 110)).alloc (.cells #[.int .u32 (s : Int)] 50) = W0 := ⟨_, rfl⟩
  have hsz : W0.heap.size = w.heap.size + 3 := by rw [← hW0]; simp
  have b0 : Blk W0 w.heap.size 26 cs := by rw [← hW0]; exact ((Blk.new _ _ _).alloc _).alloc _
  have b1 : Blk W0 (w.heap.size + 1) 110 #[.slice none 0 0] := by
    rw [← hW0]; have := Blk.new (w.alloc (.cells cs 26)) 110 #[.slice none 0 0]; rw [World.size_alloc] at this; exact this.alloc _
  have b2 : Blk W0 (w.heap.size + 2) 50 #[.int .u32 (s : Int)] := by
    rw [← hW0]; have := Blk.new ((w.alloc (.cells cs 26)).alloc (.cells #[.slice none 0 0] 110)) 50 #[.int .u32 (s : Int)]; rw [World.size_alloc, World.size_alloc] at this; exact this
  have K0 : Keep [] w W0 := by rw [← hW0]; exact (((Keep.refl _ w).alloc _).alloc _).alloc _
  simp only [hW0]
  clear hW0
  have hbl := bitsL_le s
  have HLb := Lib.hid hbl
  refine wpIn_rangeFunc_ownG (F := Fence.wide) (n := 9) (ps := #[9]) rfl (by omega) (gf := 91) (lb := #[.pointer (some ⟨w.heap.size + 2, 0, none⟩)]) rfl trivial (enters_of Tryd.func91 (by kernel_rfl) rfl)
    (maskAll1_stops 8 s (w.heap.size + 2) W0 (by omega) b2 hs (HTb.out.keep0 K0)) Same.trans (Same.turn (by have := (HTb.out.keep0 K0).1; simp; omega)) (Below.refl _ _) (fun _ => rfl)
    (fun pre W => ∃ V, W.ownsRow (w.heap.size + 3) 113 4 V (termsIn x.tasks pre).length ((termsIn x.tasks pre).flatMap trmCells) ∧ Blk W (w.heap.size + 1) 110 #[V] ∧ Keep [w.heap.size + 1] W0 W)
    (fun _ _ _ => False)
    ?hI ?hIx ⟨_, World.ownsRow_nil _ _ _ _, b1, Keep.refl _ _⟩
    (fun i => { tmps := #[.agg cs, .int .u32 (s : Int), .pointer (some ⟨w.heap.size, 0, none⟩), undef, .slice none 0 0, .pointer (some ⟨w.heap.size + 1, 0, none⟩), .int .i64 (i : Int), .int .u32 (s : Int), .func (.func 91) #[] #[.pointer (some ⟨w.heap.size + 2, 0, none⟩)], .int .i64 (i : Int),
      undef, undef, undef, undef, undef, undef, undef, undef, undef, undef, undef, undef, undef, undef, undef], defers := [] }) ?assign ?body ?done ?stop
  case hI =>
    intro pre X Y row hs hg hr
    obtain ⟨V, h1, h2, h4⟩ := hs
    exact ⟨V, ownsRow_own (β := Unit) _ _ _ (fun _ => V) (fun _ => (termsIn x.tasks pre).length) (fun _ => (termsIn x.tasks pre).flatMap trmCells) () X Y row h1 hg hr, blk_own (β := Unit) _ _ (fun _ => _) () X Y row h2 hg hr,
      keep_own (β := Unit) (Nat.le_refl _) () X Y row h4 hg hr⟩
  case hIx => exact fun _ _ _ _ _ hs _ _ => hs
  case assign =>
    intro l i W K hK
    simp only [encN]
    gi_wp2
    exact hK
  case body =>
    rintro l pre i W ⟨V, hrow, hv, hK⟩ hlt
    have c1 := hI1.out _ _ (b0.keep hK (by simp))
    have hl := HL.out
    unfold maxLen at hl
    by_cases hi : i < x.tasks.length
    · obtain ⟨b, o, hA, hbw, hcs2⟩ := HI.out.task (by omega)
      have KW : Keep [] w W := K0.trans hK (by intro y hy hlt; simp at hy; omega)
      have hct := hcs2 i hi
      have HT : Hid (∀ w', Keep [] W w' → CellsAt w' b (o + i * 11) (tskCells x.tasks[i])) := fun w' hk => hct.keep0 (KW.then hk) hbw
      have HTL : Hid ((tskCells x.tasks[i]).length = 11) := tskCells_len (HI.out.ok.lon _ (List.getElem_mem hi))
      have HE : Hid (termsIn x.tasks (pre ++ [i]) = termsIn x.tasks pre ++ [trmOf x.tasks[i]]) := by
        show _ = _
        rw [termsIn_snoc]; unfold termAt; rw [List.getElem?_eq_getElem hi]
      have HO : ∀ w, Hid (Calls Tryd.prog 87 #[.agg (tskCells x.tasks[i]).toArray, .int .i64 0] w fun e w' => e = .returned (.agg #[.int .i64 x.tasks[i].per, .int .i64 x.tasks[i].cost, .int .i64 0, .int .i64 0]) ∧ Keep [] w w') := fun w => demOf_any x.tasks[i] w
      have HTR : Hid ((termsIn x.tasks pre ++ [trmOf x.tasks[i]]).flatMap trmCells = (termsIn x.tasks pre).flatMap trmCells ++ [.int .i64 x.tasks[i].per, .int .i64 x.tasks[i].cost, .int .i64 0, .int .i64 0]) := by
        show _ = _
        rw [List.flatMap_append]; rfl
      have hlen := termsIn_le x.tasks pre
      have hpl : pre.length < 32 := by have := HLb.out; omega
      have hF : ∀ w', Keep [] W w' → w'.cell? ⟨w.heap.size + 1, 0, none⟩ = some V ∧ w'.cell? ⟨w.heap.size, 1, none⟩ = some (.slice v.ta x.tasks.length v.tc) := fun w' hw =>
        ⟨by rw [(hv.keep0 hw).cell]; rfl, hI1.out _ _ ((b0.keep hK (by simp)).keep0 hw)⟩
      have q0 : (0 : Int) ≤ (i : Int) := by omega
      have q1 : (i : Int) < (x.tasks.length : Int) := by omega
      have HK := Lib.hid hK
      have HR := Lib.hid hrow
      have HV := Lib.hid hv
      clear hct hcs2 hK hrow hv
      generalize tskCells x.tasks[i] = tc at *
      generalize trmOf x.tasks[i] = tx at *
      generalize x.tasks[i].per = r1 at *
      generalize x.tasks[i].cost = r2 at *
      rw [hA] at hF
      gi_wp2
      refine ap_start 8 (Keep [] W) (open_round _) rfl rfl (Keep.refl _ _).drew (fun hS hPan => ?_) (fun _ _ _ _ _ h => h)
      (refine ap_val (v := ?_) 0 rfl (by kernel_rfl) (by kernel_rfl) (by kernel_rfl) (by kernel_rfl) (by rfl) hPan ?_ hS ?_; rotate_left; (intro w' hSw; obtain ⟨f1,f2⟩ := hF w' hSw; go_simp; try with_reducible rfl); simp only [Act.put, List.setIfInBounds_toArray, List.set_cons_zero, List.set_cons_succ])
      (refine ap_val (v := ?_) 1 rfl (by kernel_rfl) (by kernel_rfl) (by kernel_rfl) (by kernel_rfl) (by rfl) hPan ?_ hS ?_; rotate_left; (intro w' hSw; obtain ⟨f1,f2⟩ := hF w' hSw; go_simp; try with_reducible rfl); simp only [Act.put, List.setIfInBounds_toArray, List.set_cons_zero, List.set_cons_succ])
      (refine ap_val (v := ?_) 2 rfl (by kernel_rfl) (by kernel_rfl) (by kernel_rfl) (by kernel_rfl) (by rfl) hPan ?_ hS ?_; rotate_left; (intro w' hSw; obtain ⟨f1,f2⟩ := hF w' hSw; go_simp; try with_reducible rfl); simp only [Act.put, List.setIfInBounds_toArray, List.set_cons_zero, List.set_cons_succ])
      (refine ap_val (v := ?_) 3 rfl (by kernel_rfl) (by kernel_rfl) (by kernel_rfl) (by kernel_rfl) (by rfl) hPan ?_ hS ?_; rotate_left; (intro w' hSw; obtain ⟨f1,f2⟩ := hF w' hSw; go_simp; try with_reducible rfl); simp only [Act.put, List.setIfInBounds_toArray, List.set_cons_zero, List.set_cons_succ])
      (refine ap_val (v := ?_) 4 rfl (by kernel_rfl) (by kernel_rfl) (by kernel_rfl) (by kernel_rfl) (by rfl) hPan ?_ hS ?_; rotate_left; (intro w' hSw; obtain ⟨f1,f2⟩ := hF w' hSw; go_simp; try with_reducible rfl); simp only [Act.put, List.setIfInBounds_toArray, List.set_cons_zero, List.set_cons_succ])
      refine ap_agg 5 39 (.tmp 19) tc rfl (by kernel_rfl) (by kernel_rfl) (by kernel_rfl) (by kernel_rfl) (by rfl) hPan rfl rfl (by rw [HTL.out]; exact agg_task) HT.out hS ?_
      (simp only [Act.put, List.setIfInBounds_toArray, List.set_cons_zero, List.set_cons_succ])
      refine ap_one 6 (by kernel_rfl) ?_
      refine op_call (f := 87) (vs := #[.agg tc.toArray, .int .i64 0]) 6 rfl (by rfl) rfl (by simp only [List.map_toArray, List.map_cons, List.map_nil]; rfl) Tryd.func87 (by kernel_rfl) (by kernel_rfl) (HO _).out ?_
      rintro e w2 ⟨rfl, k2⟩
      have K2 := hS.then k2
      refine ⟨_, rfl, fun _ => K2, ?_⟩
      clear k2 hS
      (simp only [Act.put, List.setIfInBounds_toArray, List.set_cons_zero, List.set_cons_succ])
      refine ap_one 7 (by kernel_rfl) ?_
      refine op_run (v := .slice (some ⟨w2.heap.size, 0, none⟩) 1 1) (w' := w2.alloc (.cells #[.int .i64 r1, .int .i64 r2, .int .i64 0, .int .i64 0] 113)) 7 rfl (by rfl) (by go_simp) ?_
      have K3 := K2.alloc (.cells #[.int .i64 r1, .int .i64 r2, .int .i64 0, .int .i64 0] 113)
      refine ⟨fun _ => K3, ?_⟩
      have r3 := own_keep0 HR.out K3
      have v3 := HV.out.keep0 K3
      have d3 := Blk.cellsAt (vs := [.int .i64 r1, .int .i64 r2, .int .i64 0, .int .i64 0]) (Blk.new w2 113 _)
      have hB3 : w.heap.size + 3 ≤ (w2.alloc (.cells #[.int .i64 r1, .int .i64 r2, .int .i64 0, .int .i64 0] 113)).heap.size := by have h1 := HK.out.size; have h2 := K3.size; omega
      clear hF
      generalize w2.alloc (.cells #[.int .i64 r1, .int .i64 r2, .int .i64 0, .int .i64 0] 113) = w3 at *
      (simp only [Act.put, List.setIfInBounds_toArray, List.set_cons_zero, List.set_cons_succ])
      refine ap_one 8 (by kernel_rfl) ?_
      refine op_app 8 1 (.tmp 15) (.tmp 22) 110 rfl (by rfl) rfl slice_trm r3 rfl rfl d3 rfl (by intro u hu; simp at hu; rcases hu with rfl | rfl | rfl | rfl <;> rfl) hB3 (by omega) (by unfold maxLen; omega) ?_
      intro v' w4 o4 k4 _
      refine ⟨fun h => (by cases h), ?_⟩
      obtain ⟨n1, n2, n3⟩ := boxed_append r3 v3 (by decide) k4 o4
      have hne := own_blk_ne r3 v3 (by decide)
      have v4 := v3.keep k4 (by simpa using hne)
      (simp only [Act.put, List.setIfInBounds_toArray, List.set_cons_zero, List.set_cons_succ])
      refine ap_one 9 (by kernel_rfl) ?_
      obtain ⟨A', c', rfl⟩ := own_shape o4
      refine op_store1 9 rfl (by rfl) rfl rfl rfl (by kernel_rfl) rfl rfl (v4.cell 0) (v4.frozen 0) ?_
      refine ⟨fun h => (by cases h), ap_done (by kernel_rfl) ?_ _⟩
      rw [noOut_normal]
      (simp only [Act.put, List.setIfInBounds_toArray, List.set_cons_zero, List.set_cons_succ])
      gi_wp2
      have hlt' := fun x hx => (r3.lt x (by simpa using hx)).1
      have n5 : Keep ((w.heap.size + 1) :: V.ownBlock.toList) W _ := (K3.mono (by simp)).trans n3 (fun y hy _ => hy)
      have e1 : (termsIn x.tasks (pre ++ [i])).length = (termsIn x.tasks pre).length + 1 := by rw [HE.out]; simp
      refine ⟨n5.from (fun y hy => ?_), Same.keep n5 (fun y hy => ?_), ⟨_, ?_, n1, ?_⟩⟩
      · rcases List.mem_cons.1 hy with rfl | hy
        · exact .inl (by omega)
        · exact .inr (own_cells HR.out y hy)
      · have hTW := HTb.out.keep0 KW
        have hz := KW.size
        have hz2 := HK.out.size
        have hzt := HTb.out.1
        simp only [List.mem_cons, List.not_mem_nil, or_false] at hy
        refine ⟨by rcases hy with rfl | rfl <;> omega, fun hm => ?_⟩
        rcases List.mem_cons.1 hm with h | h
        · rcases hy with rfl | rfl <;> omega
        · have := hlt' _ (by simpa using h)
          rcases hy with rfl | rfl <;> omega
      · rw [e1, HE.out, HTR.out]
        exact n2
      · refine HK.out.trans n5 (fun y hy hys => ?_)
        rcases List.mem_cons.1 hy with h | h
        · simp [h]
        · have := hlt' _ (by simpa using h); omega
    · have HE : Hid (termsIn x.tasks (pre ++ [i]) = termsIn x.tasks pre) := by
        show _ = _
        rw [termsIn_snoc]; unfold termAt; rw [List.getElem?_eq_none (by omega)]; simp
      gi_wp2
      refine ⟨KeepsFrom.refl _ _, Same.refl _ _, V, by rw [HE.out]; exact hrow, hv, hK⟩
  case done =>
    rintro D ys W hD rfl ⟨V, hrow, hv, hK⟩ hD2
    have hc := hv.cell 0
    simp at hc
    obtain ⟨A, c, rfl⟩ := own_shape hrow
    gi_wp2
    have hD3 := hD2
    refine ⟨by simp, .inl ⟨_, _, rfl, run_takeDeferred hD3, ?_⟩⟩
    have m2 := own_putObj (.deferred none) hrow hD3 rfl
    have m3 := (K0.trans hK (by intro y hy hlt; simp at hy; omega)).trans (keep_putObj _ D (.deferred none)) (fun y hy hlt => by simp at hy; omega)
    exact ⟨.slice A (termsOf x.tasks s).length c, by simp [results, Tryd.results52, go_sem]; rfl, A, c, rfl, own_base m2 (by omega), m3⟩
  case stop =>
    rintro D c pre W _ hpre hF _
    exact hF.elim
end Go.Proofs.YtajlkfhekligeaaDoor
