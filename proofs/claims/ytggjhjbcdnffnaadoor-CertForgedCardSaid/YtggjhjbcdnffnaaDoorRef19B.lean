/- The document on changes (layer 19): a task's window. Condition: small numbers. -/
import Derived.Test.YtggjhjbcdnffnaaDoorRef19A
namespace Go.Proofs.YtggjhjbcdnffnaaDoor
open Go.RowKit

set_option maxRecDepth 100000 in
set_option maxHeartbeats 3000000 in
theorem rwin_any (v : ImgV) (x : Img) (k f t : Nat) (L : List Int) (i : Nat) (w : World) (h : ImgAt w v x) (he : EdgeIn x k f t) (hx : Small x) (hL : OffOk L) (hi : i < x.tasks.length) :
    Calls Tryd.prog 15 #[.agg (imgCells v x).toArray, .int .i64 (k : Int), .agg (iv L).toArray, .int .i64 (i : Int)] w fun e w' => e = .returned (numRes (winR x f t L i)) ∧ Keep [] w w' := by
  have hn := hx.n
  obtain ⟨W0, hW0⟩ : ∃ W0, (w.alloc (.cells (imgCells v x).toArray 26)).alloc (.cells (iv L).toArray 27) = W0 := ⟨_, rfl⟩
  have b0 : Blk W0 w.heap.size 26 (imgCells v x).toArray := by rw [← hW0]; exact (img_box w v x).alloc _
  have b1 : Blk W0 (w.heap.size + 1) 27 (iv L).toArray := by rw [← hW0]; exact Blk.new1 _ _ _ _
  have K0 : Keep [] w W0 := by rw [← hW0]; exact ((Keep.refl [] w).alloc _).alloc _
  have HSe := Lib.hid (sets_any v x k f t W0 (h.keep0 K0) he)
  have hft := he.t_lt h.ok
  have hff := he.f_lt h.ok
  have hor : f ||| t < 4294967296 := Nat.or_lt_two_pow (n := 32) hff hft
  have hor2 : bits .or .u32 (f : Int) (t : Int) = ((f ||| t : Nat) : Int) := u32_or_nat f t hff hft
  have HC0 : Hid (∀ w', Keep [] W0 w' → CellsAt w' w.heap.size 0 (imgCells v x)) := fun w' hk => (b0.keep0 hk).cellsAt
  have HC1 : Hid (∀ w', Keep [] W0 w' → CellsAt w' (w.heap.size + 1) 0 (iv L)) := fun w' hk => (b1.keep0 hk).cellsAt
  have HI1 : Hid (∀ w', Keep [] W0 w' → w'.cell? ⟨w.heap.size, 1, none⟩ = some (.slice v.ta x.tasks.length v.tc)) := fun w' hk => img_c1 (b0.keep0 hk)
  have HIC : Hid ((imgCells v x).length = 4) := show _ = _ from rfl
  have HOC : Hid ((iv L).length = 16) := by show _ = _; rw [iv_len]; exact hL.1
  have HH := fun (j : Int) w => Lib.hid (has10_any (f ||| t) j w hor)
  have HOf := fun (j : Nat) (hj : j < 16) w' hk' => Lib.hid (roff_any v x k f t L j w' (h.keep0 (K0.then hk')) he hL.1 hj)
  have HBl := fun w' hk' => Lib.hid (rblock_any v x (f ||| t) (f ||| t) i w' (h.keep0 (K0.then hk')) hor hor hi hx)
  have HWR : Hid (winR x f t L i = if has10 (f ||| t) (i : Int) = true then (match x.tasks[i]? with | some k => leastR (k.cost + rblock x.tasks (f ||| t) (f ||| t) i) (k.ded + offR f t L i) (allM (aheadR x.tasks f t L i)) | none => none) else none) := show _ = _ from rfl
  have HI := Lib.hid (h.keep0 K0)
  have hz0 : w.heap.size < W0.heap.size := b0.lt
  have hbb := rblockTo_le hx (f ||| t) (f ||| t) i 8
  change 0 ≤ rblock x.tasks (f ||| t) (f ||| t) i ∧ rblock x.tasks (f ||| t) (f ||| t) i ≤ 4096 * (8 : Nat) at hbb
  have hcost := hx.cost _ (List.getElem_mem hi)
  have hded := hx.ded _ (List.getElem_mem hi)
  have hoi := offW_le (c := clsOf f t) hL (i : Int)
  rw [offR_same hff hft] at hoi
  have htl := aheadR_le x.tasks f t L i
  have HNU := Lib.hid (show 0 ≤ rblock x.tasks (f ||| t) (f ||| t) i ∧ rblock x.tasks (f ||| t) (f ||| t) i ≤ 32768 ∧ x.tasks[i].cost ≤ 4096 ∧ 1 ≤ x.tasks[i].cost ∧ x.tasks[i].ded ≤ 65536 ∧ 0 ≤ x.tasks[i].ded ∧ 0 ≤ offR f t L (i : Int) ∧ offR f t L (i : Int) ≤ 16384 by omega)
  have HFL := fun A c w' hr => Lib.hid (rleast_any A c (aheadR x.tasks f t L i) (x.tasks[i].cost + rblock x.tasks (f ||| t) (f ||| t) i) (x.tasks[i].ded + offR f t L i) w' hr (by omega) (by omega))
  have HW := Lib.hid hW0
  have HN := Lib.hid hn
  clear hW0 b0 b1 h he hx hbb hcost hded hoi htl hff hft hL
  generalize imgCells v x = il at *
  generalize iv L = lc at *
  cases hb : has10 (f ||| t) (i : Int) with
  | false =>
    have HX : Hid (numRes (winR x f t L i) = .tuple #[.int .i64 0, .bool false]) := by show _ = _; rw [HWR.out, hb]; rfl
    have HHi := HH (i : Int)
    rw [hb] at HHi
    clear HH
    go_enter Tryd.func15, Tryd.ntmps15
    go_wp2_with (first
      | rw [HW.out]
      | (refine wpList_load_agg rfl 26 (.tmp 4) rfl rfl (cs := il) (by rw [HIC.out]; exact agg_image) (HC0.out _ (Keep.refl _ _)) ?_)
      | (refine HSe.out.mono ?_; rintro e w2 ⟨rfl, k2⟩)
      | (refine (HHi _).out.mono ?_; rintro e w3 ⟨rfl, rfl⟩))
    go_ret2
    exact ⟨by rw [HX.out]; rfl, K0.then k2⟩
  | true =>
    have HHi := HH (i : Int)
    rw [hb] at HHi
    have HX : Hid (numRes (winR x f t L i) = numRes (leastR (x.tasks[i].cost + rblock x.tasks (f ||| t) (f ||| t) i) (x.tasks[i].ded + offR f t L i) (allM (aheadR x.tasks f t L i)))) := by
      show _ = _
      rw [HWR.out, hb, if_pos rfl, List.getElem?_eq_getElem hi]
    clear HWR
    go_enter Tryd.func15, Tryd.ntmps15
    go_wp2_with (first
      | rw [HW.out]
      | (refine wpList_load_agg rfl 26 (.tmp 4) rfl rfl (cs := il) (by rw [HIC.out]; exact agg_image) (HC0.out _ (Keep.refl _ _)) ?_)
      | (refine HSe.out.mono ?_; rintro e w1 ⟨rfl, k1⟩)
      | (refine (HHi _).out.mono ?_; rintro e w3 ⟨rfl, rfl⟩))
    have K1 := Lib.hid (K0.then k1)
    have HK1 := Lib.hid k1
    have hz1 : w.heap.size ≤ w1.heap.size := K1.out.size
    clear k1 K0 HHi HSe
    go_loopw [13, 14] (fun o j wr => ∃ m : Nat, m ≤ i ∧ j = .int .i64 m ∧ wr.ownsRow w1.heap.size 103 4 o (aheadR x.tasks f t L m).length ((aheadR x.tasks f t L m).flatMap trmCells) ∧ Keep [] w1 wr) (fun _ j _ => i - (intOf j).toNat)
    case atStart => exact ⟨0, Nat.zero_le _, rfl, World.ownsRow_nil _ _ _ _, Keep.refl _ _⟩
    case round =>
      obtain ⟨m, hm, rfl, hrow, hK⟩ := hrel
      have c1 := HI1.out wr (HK1.out.then hK)
      have hkl := aheadR_le x.tasks f t L m
      have hn := HN.out
      by_cases hlt : m < i
      · have hmn : m < x.tasks.length := by omega
        obtain ⟨b, o, hA, hbw, hcs⟩ := HI.out.task (by omega)
        have hct := (hcs m hmn).keep0 (HK1.out.then hK) hbw
        have hp := hct 0 (.int .i64 x.tasks[m].per) rfl
        have hc := hct 2 (.int .i64 x.tasks[m].cost) rfl
        rw [Nat.add_zero] at hp
        rw [hA] at c1
        have p0 : (0 : Int) ≤ (m : Int) := by omega
        have p1 : (m : Int) < (x.tasks.length : Int) := by omega
        have p2 : decide ((m : Int) < (i : Int)) = true := by simp; omega
        have hHk := HH (m : Int)
        have hOk := HOf m (by omega)
        have HT : Hid (termR x.tasks f t L m = [⟨x.tasks[m].per, x.tasks[m].cost, offR f t L (m : Int), 0⟩]) := by show _ = _; unfold termR; rw [List.getElem?_eq_getElem hmn]
        have hst : Hid (aheadR x.tasks f t L (m + 1) = aheadR x.tasks f t L m ++ (if has10 (f ||| t) (m : Int) = true then termR x.tasks f t L m else [])) := rfl
        have HK := Lib.hid hK
        have HR := Lib.hid hrow
        clear hcs hct hK hrow
        generalize x.tasks[m].per = r1 at *
        generalize x.tasks[m].cost = r2 at *
        generalize offR f t L (m : Int) = r3 at *
        cases hb2 : has10 (f ||| t) (m : Int) with
        | false =>
          have HX2 : Hid (aheadR x.tasks f t L (m + 1) = aheadR x.tasks f t L m) := by show _ = _; rw [hst.out, hb2]; simp
          go_wp2_with fail
          refine (hHk _).out.mono ?_
          rintro e w' ⟨rfl, rfl⟩
          rw [hb2]
          go_wp2
          go_roundw
          case rel => exact ⟨m + 1, by omega, by go_num, by rw [HX2.out]; exact HR.out, HK.out⟩
          case measure => simp [intOf] <;> omega
        | true =>
          have HX2 : Hid (aheadR x.tasks f t L (m + 1) = aheadR x.tasks f t L m ++ [⟨r1, r2, r3, 0⟩]) := by show _ = _; rw [hst.out, hb2, if_pos rfl, HT.out]
          have hF : ∀ w', Keep [] wr w' → w'.cell? ⟨w.heap.size, 1, none⟩ = some (.slice (some ⟨b, o, none⟩) x.tasks.length v.tc) ∧ w'.cell? ⟨b, o + m * 11, none⟩ = some (.int .i64 r1) ∧ w'.cell? ⟨b, o + m * 11 + 2, none⟩ = some (.int .i64 r2) := fun w' hw =>
            ⟨(hw.cell (p := ⟨w.heap.size, 1, none⟩) (World.block_lt_of_cell? _ _ c1) (by simp)).trans c1, (hw.cell (p := ⟨b, o + m * 11, none⟩) (World.block_lt_of_cell? _ _ hp) (by simp)).trans hp, (hw.cell (p := ⟨b, o + m * 11 + 2, none⟩) (World.block_lt_of_cell? _ _ hc) (by simp)).trans hc⟩
          have hC0 : ∀ w', Keep [] wr w' → CellsAt w' w.heap.size 0 il := fun w' hw => HC0.out w' ((HK1.out.then HK.out).then hw)
          have hC1 : ∀ w', Keep [] wr w' → CellsAt w' (w.heap.size + 1) 0 lc := fun w' hw => HC1.out w' ((HK1.out.then HK.out).then hw)
          go_wp2_with fail
          refine (hHk _).out.mono ?_
          rintro e w' ⟨rfl, rfl⟩
          rw [hb2]
          go_wp2
          refine ap_begin 20 (Keep [] wr) rfl (Keep.refl _ _).drew (fun hS hPan => ?_) (fun _ _ d _ _ h => by cases d <;> exact h)
          (refine ap_val (v := ?_) 0 rfl (by kernel_rfl) (by kernel_rfl) (by kernel_rfl) (by kernel_rfl) (by rfl) hPan ?_ hS ?_; rotate_left; (intro w' hSw; obtain ⟨f1,f2,f3⟩ := hF w' hSw; go_simp; try with_reducible rfl); simp only [Act.put, List.setIfInBounds_toArray, List.set_cons_zero, List.set_cons_succ])
          (refine ap_val (v := ?_) 1 rfl (by kernel_rfl) (by kernel_rfl) (by kernel_rfl) (by kernel_rfl) (by rfl) hPan ?_ hS ?_; rotate_left; (intro w' hSw; obtain ⟨f1,f2,f3⟩ := hF w' hSw; go_simp; try with_reducible rfl); simp only [Act.put, List.setIfInBounds_toArray, List.set_cons_zero, List.set_cons_succ])
          (refine ap_val (v := ?_) 2 rfl (by kernel_rfl) (by kernel_rfl) (by kernel_rfl) (by kernel_rfl) (by rfl) hPan ?_ hS ?_; rotate_left; (intro w' hSw; obtain ⟨f1,f2,f3⟩ := hF w' hSw; go_simp; try with_reducible rfl); simp only [Act.put, List.setIfInBounds_toArray, List.set_cons_zero, List.set_cons_succ])
          (refine ap_val (v := ?_) 3 rfl (by kernel_rfl) (by kernel_rfl) (by kernel_rfl) (by kernel_rfl) (by rfl) hPan ?_ hS ?_; rotate_left; (intro w' hSw; obtain ⟨f1,f2,f3⟩ := hF w' hSw; go_simp; try with_reducible rfl); simp only [Act.put, List.setIfInBounds_toArray, List.set_cons_zero, List.set_cons_succ])
          (refine ap_val (v := ?_) 4 rfl (by kernel_rfl) (by kernel_rfl) (by kernel_rfl) (by kernel_rfl) (by rfl) hPan ?_ hS ?_; rotate_left; (intro w' hSw; obtain ⟨f1,f2,f3⟩ := hF w' hSw; go_simp; try with_reducible rfl); simp only [Act.put, List.setIfInBounds_toArray, List.set_cons_zero, List.set_cons_succ])
          (refine ap_val (v := ?_) 5 rfl (by kernel_rfl) (by kernel_rfl) (by kernel_rfl) (by kernel_rfl) (by rfl) hPan ?_ hS ?_; rotate_left; (intro w' hSw; obtain ⟨f1,f2,f3⟩ := hF w' hSw; go_simp; try with_reducible rfl); simp only [Act.put, List.setIfInBounds_toArray, List.set_cons_zero, List.set_cons_succ])
          (refine ap_val (v := ?_) 6 rfl (by kernel_rfl) (by kernel_rfl) (by kernel_rfl) (by kernel_rfl) (by rfl) hPan ?_ hS ?_; rotate_left; (intro w' hSw; obtain ⟨f1,f2,f3⟩ := hF w' hSw; go_simp; try with_reducible rfl); simp only [Act.put, List.setIfInBounds_toArray, List.set_cons_zero, List.set_cons_succ])
          (refine ap_val (v := ?_) 7 rfl (by kernel_rfl) (by kernel_rfl) (by kernel_rfl) (by kernel_rfl) (by rfl) hPan ?_ hS ?_; rotate_left; (intro w' hSw; obtain ⟨f1,f2,f3⟩ := hF w' hSw; go_simp; try with_reducible rfl); simp only [Act.put, List.setIfInBounds_toArray, List.set_cons_zero, List.set_cons_succ])
          (refine ap_val (v := ?_) 8 rfl (by kernel_rfl) (by kernel_rfl) (by kernel_rfl) (by kernel_rfl) (by rfl) hPan ?_ hS ?_; rotate_left; (intro w' hSw; obtain ⟨f1,f2,f3⟩ := hF w' hSw; go_simp; try with_reducible rfl); simp only [Act.put, List.setIfInBounds_toArray, List.set_cons_zero, List.set_cons_succ])
          (refine ap_val (v := ?_) 9 rfl (by kernel_rfl) (by kernel_rfl) (by kernel_rfl) (by kernel_rfl) (by rfl) hPan ?_ hS ?_; rotate_left; (intro w' hSw; obtain ⟨f1,f2,f3⟩ := hF w' hSw; go_simp; try with_reducible rfl); simp only [Act.put, List.setIfInBounds_toArray, List.set_cons_zero, List.set_cons_succ])
          (refine ap_val (v := ?_) 10 rfl (by kernel_rfl) (by kernel_rfl) (by kernel_rfl) (by kernel_rfl) (by rfl) hPan ?_ hS ?_; rotate_left; (intro w' hSw; obtain ⟨f1,f2,f3⟩ := hF w' hSw; go_simp; try with_reducible rfl); simp only [Act.put, List.setIfInBounds_toArray, List.set_cons_zero, List.set_cons_succ])
          (refine ap_val (v := ?_) 11 rfl (by kernel_rfl) (by kernel_rfl) (by kernel_rfl) (by kernel_rfl) (by rfl) hPan ?_ hS ?_; rotate_left; (intro w' hSw; obtain ⟨f1,f2,f3⟩ := hF w' hSw; go_simp; try with_reducible rfl); simp only [Act.put, List.setIfInBounds_toArray, List.set_cons_zero, List.set_cons_succ])
          (refine ap_val (v := ?_) 12 rfl (by kernel_rfl) (by kernel_rfl) (by kernel_rfl) (by kernel_rfl) (by rfl) hPan ?_ hS ?_; rotate_left; (intro w' hSw; obtain ⟨f1,f2,f3⟩ := hF w' hSw; go_simp; try with_reducible rfl); simp only [Act.put, List.setIfInBounds_toArray, List.set_cons_zero, List.set_cons_succ])
          refine ap_agg 13 26 (.tmp 4) il rfl (by kernel_rfl) (by kernel_rfl) (by kernel_rfl) (by kernel_rfl) (by rfl) hPan rfl rfl (by rw [HIC.out]; exact agg_image) hC0 hS ?_
          (simp only [Act.put, List.setIfInBounds_toArray, List.set_cons_zero, List.set_cons_succ])
          (refine ap_val (v := ?_) 14 rfl (by kernel_rfl) (by kernel_rfl) (by kernel_rfl) (by kernel_rfl) (by rfl) hPan ?_ hS ?_; rotate_left; (intro w' hSw; obtain ⟨f1,f2,f3⟩ := hF w' hSw; go_simp; try with_reducible rfl); simp only [Act.put, List.setIfInBounds_toArray, List.set_cons_zero, List.set_cons_succ])
          refine ap_agg 15 27 (.tmp 6) lc rfl (by kernel_rfl) (by kernel_rfl) (by kernel_rfl) (by kernel_rfl) (by rfl) hPan rfl rfl (by rw [HOC.out]; exact agg_offs) hC1 hS ?_
          (simp only [Act.put, List.setIfInBounds_toArray, List.set_cons_zero, List.set_cons_succ])
          (refine ap_val (v := ?_) 16 rfl (by kernel_rfl) (by kernel_rfl) (by kernel_rfl) (by kernel_rfl) (by rfl) hPan ?_ hS ?_; rotate_left; (intro w' hSw; obtain ⟨f1,f2,f3⟩ := hF w' hSw; go_simp; try with_reducible rfl); simp only [Act.put, List.setIfInBounds_toArray, List.set_cons_zero, List.set_cons_succ])
          refine ap_one 17 (by kernel_rfl) ?_
          refine op_call (f := 49) (vs := #[.agg il.toArray, .int .i64 (k : Int), .agg lc.toArray, .int .i64 (m : Int)]) 17 rfl (by rfl) rfl (by simp only [List.map_toArray, List.map_cons, List.map_nil]; rfl) Tryd.func49 (by kernel_rfl) (by kernel_rfl) (hOk _ ((HK1.out.then HK.out).then hS)).out ?_
          rintro e w5 ⟨rfl, k5⟩
          have hS5 := hS.then k5
          refine ⟨_, rfl, fun _ => hS5, ?_⟩
          clear k5 hS
          have hS := hS5
          clear hS5
          (simp only [Act.put, List.setIfInBounds_toArray, List.set_cons_zero, List.set_cons_succ])
          (refine ap_val (v := ?_) 18 rfl (by kernel_rfl) (by kernel_rfl) (by kernel_rfl) (by kernel_rfl) (by rfl) hPan ?_ hS ?_; rotate_left; (intro w' hSw; obtain ⟨f1,f2,f3⟩ := hF w' hSw; go_simp; try with_reducible rfl); simp only [Act.put, List.setIfInBounds_toArray, List.set_cons_zero, List.set_cons_succ])
          refine ap_one 19 (by kernel_rfl) ?_
          refine op_run (v := .slice (some ⟨w5.heap.size, 0, none⟩) 1 1) (w' := w5.alloc (.cells #[.int .i64 r1, .int .i64 r2, .int .i64 r3, .int .i64 0] 103)) 19 rfl (by rfl) (by go_simp) ?_
          have K3 : Keep [] wr (w5.alloc (.cells #[.int .i64 r1, .int .i64 r2, .int .i64 r3, .int .i64 0] 103)) := hS.alloc _
          refine ⟨fun _ => K3, ?_⟩
          have r3' := own_keep0 HR.out hS
          have hB3 : w1.heap.size ≤ w5.heap.size := by have h1 := HK.out.size; have h2 := hS.size; omega
          have d3 := Blk.cellsAt (vs := [.int .i64 r1, .int .i64 r2, .int .i64 r3, .int .i64 0]) (Blk.new w5 103 _)
          have r4 := own_keep0 HR.out K3
          clear hF hS
          generalize hw3 : w5.alloc (.cells #[.int .i64 r1, .int .i64 r2, .int .i64 r3, .int .i64 0] 103) = w3 at *
          have hB4 : w1.heap.size ≤ w3.heap.size := by have h1 := HK.out.size; have h2 := K3.size; omega
          clear hw3
          (simp only [Act.put, List.setIfInBounds_toArray, List.set_cons_zero, List.set_cons_succ])
          refine ap_one 20 (by kernel_rfl) ?_
          refine op_app 20 1 (.tmp 37) (.tmp 56) 101 rfl (by rfl) rfl slice_rtrm r4 rfl rfl d3 rfl (by intro u hu; simp at hu; rcases hu with rfl | rfl | rfl | rfl <;> rfl) hB4 (by omega) (by unfold maxLen; omega) ?_
          intro v' w4 o4 k4 _
          refine ⟨fun h => (by cases h), ?_⟩
          have hlt' := fun x hx => (r4.lt x (by simpa using hx)).1
          have K4 : Keep [] w1 w4 := (HK.out.then K3).trans k4 (fun y hy hlt => by have := hlt' y (by simpa using hy); omega)
          (simp only [Act.put, List.setIfInBounds_toArray, List.set_cons_zero, List.set_cons_succ])
          refine ap_one 21 (by kernel_rfl) ?_
          refine op_run (v := v') (w' := w4) 21 rfl (by rfl) (by go_simp) ?_
          refine ⟨fun h => (by cases h), ap_done (by kernel_rfl) ?_ _⟩
          (simp only [Act.put, List.setIfInBounds_toArray, List.set_cons_zero, List.set_cons_succ])
          have O4 : Hid (w4.ownsRow w1.heap.size 103 4 v' (aheadR x.tasks f t L (m + 1)).length ((aheadR x.tasks f t L (m + 1)).flatMap trmCells)) := by
            show World.ownsRow _ _ _ _ _ _ _
            rw [HX2.out, List.length_append, List.flatMap_append]
            exact o4
          have HK4 := Lib.hid K4
          clear hPan r3' r4 d3 o4 k4 K4 K3 hlt'
          go_wp2
          go_roundw
          case rel => exact ⟨m + 1, by omega, by go_num, O4.out, HK4.out⟩
          case measure => simp [intOf] <;> omega
      · obtain rfl : m = i := by omega
        obtain ⟨A, cc, rfl⟩ := own_shape hrow
        obtain ⟨b, o, hA, hbw, hcs⟩ := HI.out.task (by omega)
        have hl8 := HI.out.ok.lon _ (List.getElem_mem hi)
        have HTL : Hid ((tskCells x.tasks[m]).length = 11) := tskCells_len hl8
        have HCC := Lib.hid ((hcs m hi).keep0 (HK1.out.then hK) hbw)
        have HG := Lib.hid (show (tskCells x.tasks[m])[1]? = some (.int .i64 x.tasks[m].ded) ∧ (tskCells x.tasks[m])[2]? = some (.int .i64 x.tasks[m].cost) from ⟨rfl, rfl⟩)
        have hone : Hid (∀ u ∈ tskCells x.tasks[m], u.oneCell' = true) := iv_one (tskInts x.tasks[m])
        have p0 : (0 : Int) ≤ (m : Int) := by omega
        have p1 : (m : Int) < (x.tasks.length : Int) := by omega
        have p2 : decide ((m : Int) < (m : Int)) = false := by simp
        rw [hA] at c1
        have HK := Lib.hid hK
        have HRd := Lib.hid (Reads.of_own hrow)
        have hOk := HOf m (by omega)
        clear hcs hrow hK HOf
        generalize tskCells x.tasks[m] = tc2 at *
        generalize x.tasks[m].cost = tco at *
        generalize x.tasks[m].ded = tde at *
        generalize rblock x.tasks (f ||| t) (f ||| t) m = bm at *
        generalize offR f t L (m : Int) = om at *
        generalize aheadR x.tasks f t L m = ts at *
        go_wp2_with (first
          | (refine wpList_load_agg rfl 81 (.tmp 61) rfl rfl (cs := tc2) (by rw [HTL.out]; exact agg_task) HCC.out ?_)
          | (refine stop_store 81 (.tmp 15) (.tmp 62) rfl ?_))
        constructor
        refine wpList_store_all rfl 81 (.tmp 15) (.tmp 62) rfl rfl rfl (vs := tc2) (by rw [HTL.out]; exact agg_task.2) (Blk.new _ _ _) hone.out ?_ ?_
        · rw [HTL.out]; rfl
        intro w2 d2 k2
        have K2 : Keep [] wr w2 := ((Keep.refl [] wr).alloc _).trans k2 (fun y hy hlt => by simp at hy; omega)
        have KW2 := Lib.hid (HK1.out.then (HK.out.then K2))
        have HRd2 := Lib.hid (HRd.out.keep0 K2)
        have KF := Lib.hid (K1.out.then (HK.out.then K2))
        have hC0 : ∀ w', Keep [] w2 w' → CellsAt w' w.heap.size 0 il := fun w' hw => HC0.out w' (KW2.out.then hw)
        have hC1 : ∀ w', Keep [] w2 w' → CellsAt w' (w.heap.size + 1) 0 lc := fun w' hw => HC1.out w' (KW2.out.then hw)
        have hF : ∀ w', Keep [] w2 w' → w'.cell? ⟨wr.heap.size, 1, none⟩ = some (.int .i64 tde) ∧ w'.cell? ⟨wr.heap.size, 2, none⟩ = some (.int .i64 tco) := fun w' hw =>
          ⟨(d2.keep0 hw).at_ HG.out.1, (d2.keep0 hw).at_ HG.out.2⟩
        obtain ⟨n1, n2, n3, n4, n5, n6, n7, n8⟩ := HNU.out
        clear k2 K2
        go_wp2
        refine ap_begin 21 (Keep [] w2) rfl (Keep.refl _ _).drew (fun hS hPan => ?_) (fun _ _ d _ _ h => by cases d <;> exact h)
        (refine ap_val (v := ?_) 0 rfl (by kernel_rfl) (by kernel_rfl) (by kernel_rfl) (by kernel_rfl) (by rfl) hPan ?_ hS ?_; rotate_left; (intro w' hSw; obtain ⟨f1,f2⟩ := hF w' hSw; go_simp; try with_reducible rfl); simp only [Act.put, List.setIfInBounds_toArray, List.set_cons_zero, List.set_cons_succ])
        (refine ap_val (v := ?_) 1 rfl (by kernel_rfl) (by kernel_rfl) (by kernel_rfl) (by kernel_rfl) (by rfl) hPan ?_ hS ?_; rotate_left; (intro w' hSw; obtain ⟨f1,f2⟩ := hF w' hSw; go_simp; try with_reducible rfl); simp only [Act.put, List.setIfInBounds_toArray, List.set_cons_zero, List.set_cons_succ])
        refine ap_agg 2 26 (.tmp 4) il rfl (by kernel_rfl) (by kernel_rfl) (by kernel_rfl) (by kernel_rfl) (by rfl) hPan rfl rfl (by rw [HIC.out]; exact agg_image) hC0 hS ?_
        (simp only [Act.put, List.setIfInBounds_toArray, List.set_cons_zero, List.set_cons_succ])
        (refine ap_val (v := ?_) 3 rfl (by kernel_rfl) (by kernel_rfl) (by kernel_rfl) (by kernel_rfl) (by rfl) hPan ?_ hS ?_; rotate_left; (intro w' hSw; obtain ⟨f1,f2⟩ := hF w' hSw; go_simp; try with_reducible rfl); simp only [Act.put, List.setIfInBounds_toArray, List.set_cons_zero, List.set_cons_succ])
        (refine ap_val (v := ?_) 4 rfl (by kernel_rfl) (by kernel_rfl) (by kernel_rfl) (by kernel_rfl) (by rfl) hPan ?_ hS ?_; rotate_left; (intro w' hSw; obtain ⟨f1,f2⟩ := hF w' hSw; go_simp; try with_reducible rfl); simp only [Act.put, List.setIfInBounds_toArray, List.set_cons_zero, List.set_cons_succ])
        (refine ap_val (v := ?_) 5 rfl (by kernel_rfl) (by kernel_rfl) (by kernel_rfl) (by kernel_rfl) (by rfl) hPan ?_ hS ?_; rotate_left; (intro w' hSw; obtain ⟨f1,f2⟩ := hF w' hSw; go_simp; try with_reducible rfl); simp only [Act.put, List.setIfInBounds_toArray, List.set_cons_zero, List.set_cons_succ])
        (refine ap_val (v := ?_) 8 rfl (by kernel_rfl) (by kernel_rfl) (by kernel_rfl) (by kernel_rfl) (by rfl) hPan ?_ hS ?_; rotate_left; (intro w' hSw; obtain ⟨f1,f2⟩ := hF w' hSw; go_simp; try with_reducible rfl); simp only [Act.put, List.setIfInBounds_toArray, List.set_cons_zero, List.set_cons_succ])
        (refine ap_val (v := ?_) 9 rfl (by kernel_rfl) (by kernel_rfl) (by kernel_rfl) (by kernel_rfl) (by rfl) hPan ?_ hS ?_; rotate_left; (intro w' hSw; obtain ⟨f1,f2⟩ := hF w' hSw; go_simp; try with_reducible rfl); simp only [Act.put, List.setIfInBounds_toArray, List.set_cons_zero, List.set_cons_succ])
        refine ap_agg 10 26 (.tmp 4) il rfl (by kernel_rfl) (by kernel_rfl) (by kernel_rfl) (by kernel_rfl) (by rfl) hPan rfl rfl (by rw [HIC.out]; exact agg_image) hC0 hS ?_
        (simp only [Act.put, List.setIfInBounds_toArray, List.set_cons_zero, List.set_cons_succ])
        (refine ap_val (v := ?_) 11 rfl (by kernel_rfl) (by kernel_rfl) (by kernel_rfl) (by kernel_rfl) (by rfl) hPan ?_ hS ?_; rotate_left; (intro w' hSw; obtain ⟨f1,f2⟩ := hF w' hSw; go_simp; try with_reducible rfl); simp only [Act.put, List.setIfInBounds_toArray, List.set_cons_zero, List.set_cons_succ])
        refine ap_agg 12 27 (.tmp 6) lc rfl (by kernel_rfl) (by kernel_rfl) (by kernel_rfl) (by kernel_rfl) (by rfl) hPan rfl rfl (by rw [HOC.out]; exact agg_offs) hC1 hS ?_
        (simp only [Act.put, List.setIfInBounds_toArray, List.set_cons_zero, List.set_cons_succ])
        (refine ap_val (v := ?_) 13 rfl (by kernel_rfl) (by kernel_rfl) (by kernel_rfl) (by kernel_rfl) (by rfl) hPan ?_ hS ?_; rotate_left; (intro w' hSw; obtain ⟨f1,f2⟩ := hF w' hSw; go_simp; try with_reducible rfl); simp only [Act.put, List.setIfInBounds_toArray, List.set_cons_zero, List.set_cons_succ])
        (refine ap_val (v := ?_) 16 rfl (by kernel_rfl) (by kernel_rfl) (by kernel_rfl) (by kernel_rfl) (by rfl) hPan ?_ hS ?_; rotate_left; (intro w' hSw; obtain ⟨f1,f2⟩ := hF w' hSw; go_simp; try with_reducible rfl); simp only [Act.put, List.setIfInBounds_toArray, List.set_cons_zero, List.set_cons_succ])
        refine ap_one 6 (by kernel_rfl) ?_
        refine op_call (f := 51) (vs := #[.agg il.toArray, .int .u32 ((f ||| t : Nat) : Int), .int .u32 ((f ||| t : Nat) : Int), .int .i64 (m : Int)]) 6 rfl (by rfl) rfl (by simp only [List.map_toArray, List.map_cons, List.map_nil]; rfl) Tryd.func51 (by kernel_rfl) (by kernel_rfl) (HBl _ (KW2.out.then hS)).out ?_
        rintro e w5 ⟨rfl, k5⟩
        replace hS := hS.then k5
        refine ⟨_, rfl, fun _ => hS, ?_⟩
        clear k5
        (simp only [Act.put, List.setIfInBounds_toArray, List.set_cons_zero, List.set_cons_succ])
        have hwr : IntKind.i64.wrap (tco + bm) = tco + bm := IntWalk.i64_in _ (by omega)
        (refine ap_val (v := ?_) 7 rfl (by kernel_rfl) (by kernel_rfl) (by kernel_rfl) (by kernel_rfl) (by rfl) hPan ?_ hS ?_; rotate_left; (intro w' hSw; obtain ⟨f1,f2⟩ := hF w' hSw; go_simp; try with_reducible rfl); simp only [Act.put, List.setIfInBounds_toArray, List.set_cons_zero, List.set_cons_succ])
        clear hwr
        refine ap_one 14 (by kernel_rfl) ?_
        refine op_call (f := 49) (vs := #[.agg il.toArray, .int .i64 (k : Int), .agg lc.toArray, .int .i64 (m : Int)]) 14 rfl (by rfl) rfl (by simp only [List.map_toArray, List.map_cons, List.map_nil]; rfl) Tryd.func49 (by kernel_rfl) (by kernel_rfl) (hOk _ (KW2.out.then hS)).out ?_
        rintro e w6 ⟨rfl, k6⟩
        replace hS := hS.then k6
        refine ⟨_, rfl, fun _ => hS, ?_⟩
        clear k6
        (simp only [Act.put, List.setIfInBounds_toArray, List.set_cons_zero, List.set_cons_succ])
        have hwr : IntKind.i64.wrap (tde + om) = tde + om := IntWalk.i64_in _ (by omega)
        (refine ap_val (v := ?_) 15 rfl (by kernel_rfl) (by kernel_rfl) (by kernel_rfl) (by kernel_rfl) (by rfl) hPan ?_ hS ?_; rotate_left; (intro w' hSw; obtain ⟨f1,f2⟩ := hF w' hSw; go_simp; try with_reducible rfl); simp only [Act.put, List.setIfInBounds_toArray, List.set_cons_zero, List.set_cons_succ])
        clear hwr
        have HL6 := HFL A cc _ (HRd2.out.keep0 hS)
        refine ap_one 17 (by kernel_rfl) ?_
        refine op_call (f := 50) (vs := #[.int .i64 (tco + bm), .int .i64 (tde + om), .slice A ts.length cc]) 17 rfl (by rfl) rfl (by simp only [List.map_toArray, List.map_cons, List.map_nil]; rfl) Tryd.func50 (by kernel_rfl) (by kernel_rfl) HL6.out ?_
        rintro e w7 ⟨rfl, k7⟩
        replace hS := hS.then k7
        refine ⟨_, rfl, fun _ => hS, ?_⟩
        clear k7
        rw [numRes_eq]
        rw [numRes_eq (leastR _ _ _)] at HX
        generalize leastR (tco + bm) (tde + om) (allM ts) = rs at *
        (simp only [Act.put, List.setIfInBounds_toArray, List.set_cons_zero, List.set_cons_succ])
        (refine ap_val (v := ?_) 18 rfl (by kernel_rfl) (by kernel_rfl) (by kernel_rfl) (by kernel_rfl) (by rfl) hPan ?_ hS ?_; rotate_left; (intro w' hSw; obtain ⟨f1,f2⟩ := hF w' hSw; go_simp; try with_reducible rfl); simp only [Act.put, List.setIfInBounds_toArray, List.set_cons_zero, List.set_cons_succ])
        (refine ap_val (v := ?_) 19 rfl (by kernel_rfl) (by kernel_rfl) (by kernel_rfl) (by kernel_rfl) (by rfl) hPan ?_ hS ?_; rotate_left; (intro w' hSw; obtain ⟨f1,f2⟩ := hF w' hSw; go_simp; try with_reducible rfl); simp only [Act.put, List.setIfInBounds_toArray, List.set_cons_zero, List.set_cons_succ])
        (refine ap_val (v := ?_) 20 rfl (by kernel_rfl) (by kernel_rfl) (by kernel_rfl) (by kernel_rfl) (by rfl) hPan ?_ hS ?_; rotate_left; (intro w' hSw; obtain ⟨f1,f2⟩ := hF w' hSw; go_simp; try with_reducible rfl); simp only [Act.put, List.setIfInBounds_toArray, List.set_cons_zero, List.set_cons_succ])
        refine ap_one 21 (by kernel_rfl) ?_
        refine op_run (v := .bool rs.isSome) (w' := w7) 21 rfl (by rfl) (by go_simp) ?_
        refine ⟨fun _ => hS, ap_done (by kernel_rfl) ?_ _⟩
        (simp only [Act.put, List.setIfInBounds_toArray, List.set_cons_zero, List.set_cons_succ])
        have HS := Lib.hid hS
        clear hS hPan hF HL6
        go_wp2
        go_ret2
        exact ⟨by rw [HX.out]; rfl, KF.out.then HS.out⟩
end Go.Proofs.YtggjhjbcdnffnaaDoor
