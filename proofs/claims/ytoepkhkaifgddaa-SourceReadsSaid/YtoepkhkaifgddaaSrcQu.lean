/- The reader's line 'task', walked. Condition: as the reader's. The reader's line 'mode', walked. Condition: as the reader's; there is a piece. The reader's line 'queue', walked. Condition: as the reader's. -/
import Derived.Test.YtoepkhkaifgddaaSrcK
namespace Go.Proofs.Ytoepkhkaifgddaa
open Go.RowKit

/-- The first k of three numbers, the others 0. -/
def firstN (v : Nat → Int) (k : Nat) : List Int := [if 0 < k then v 0 else 0, if 1 < k then v 1 else 0, if 2 < k then v 2 else 0]

theorem own_cap {w : World} {base : Nat} {e : TypeId} {size n c : Nat} {A : Option Addr} {xs : List Value} (h : w.ownsRow base e size (.slice A n c) n xs) : n ≤ c := by
  rcases h.2 with ⟨e, rfl⟩ | ⟨_, cap, _, e, _, _, h1, _⟩
  · cases e; exact Nat.le_refl _
  · cases e; exact h1

theorem iv_set (l : List Int) (i : Nat) (n : Int) : (iv l).toArray.setIfInBounds i (.int .i64 n) = (iv (l.set i n)).toArray := by simp [List.map_set]
theorem tsk_set (a b c : Int) (l : List Int) (j : Nat) (n : Int) : (tskCells ⟨a, b, c, l⟩).toArray.setIfInBounds (3 + j) (.int .i64 n) = (tskCells ⟨a, b, c, l.set j n⟩).toArray := by
  unfold tskCells
  rw [iv_set]
  unfold tskInts
  rw [Nat.add_comm 3 j]
  rfl
/-- A row of texts behind its first four. -/
theorem reads_drop {w : World} {A : Option Addr} {ps : List ByteArray} (_h : Reads w 1 A ps.length (strs ps)) (h4 : 4 ≤ ps.length) (he : ps.length ≤ 4) : Reads w 1 A (ps.length - 4) (strs (ps.drop 4)) :=
  ⟨by simp [strs], fun h0 => absurd h0 (by omega)⟩
theorem reads_drop' {w : World} {A : Option Addr} {ps : List ByteArray} (h : Reads w 1 A ps.length (strs ps)) (h4 : 4 ≤ ps.length) : Reads w 1 (Option.map (fun (x : Addr) => ({ block := x.block, off := x.off + 4 } : Addr)) A) (ps.length - 4) (strs (ps.drop 4)) := by
  refine ⟨by simp [strs], fun h0 => ?_⟩
  obtain ⟨b, o, rfl, hb, hc⟩ := h.addr (by omega)
  refine ⟨b, o + 4, rfl, hb, fun j u hu => ?_⟩
  have := hc (4 + j) u (by simpa [strs] using hu)
  rwa [← Nat.add_assoc] at this

set_option maxRecDepth 100000 in
set_option maxHeartbeats 4000000 in
theorem task_any12 (b R : Nat) (x : Img) (vp : Value) (ps : List ByteArray) (w : World) (h : RdrIs w b R x vp ps) (hl : ps.length ≤ 1000001) (hz : ∀ p ∈ ps, p.size ≤ 1000000) (hxl : x.tasks.length ≤ 1000000) :
    Calls Try.prog 68 #[.pointer (some ⟨R, 0, none⟩)] w (LinePost w b R ((taskP ps).map fun t => { x with tasks := x.tasks ++ [t] }) vp ps) := by
  obtain ⟨vt, vm, ve, ms, hR⟩ := h
  obtain ⟨A, cc, rfl⟩ := own_shape hR.pcs
  have HR := Lib.hid hR
  have HN := fun W (k : Keep [] w W) i (hi : i ≤ 1000000) => Lib.hid ((hR.keep0 k).num hl hz (i := i) hi)
  obtain ⟨v, hv⟩ : ∃ v : Nat → Int, v = fun j => (numP ps (1 + j)).getD 0 := ⟨_, rfl⟩
  have HV := Lib.hid hv
  clear hv hR
  go_enter Try.func68, Try.ntmps68
  go_wp2_with (refine stop_store 71 (.tmp 3) (.tmp 10) rfl ?_)
  constructor
  refine wpList_store_all rfl 71 (.tmp 3) (.tmp 10) rfl rfl rfl (vs := iv [0, 0, 0, 0, 0, 0, 0, 0, 0, 0, 0]) agg_task.2 (Blk.new _ _ _) (iv_one _) rfl ?_
  intro w1 d1 k1
  have kr1 : Keep [] w w1 := ((Keep.refl [] w).alloc _).trans k1 (fun y hy h => by simp at hy h; omega)
  have hg1 := d1.lt
  have hd2 := d1.alloc (.cells #[.pointer (some ⟨w.heap.size, 0, none⟩), .pointer (some ⟨w.heap.size, 1, none⟩), .pointer (some ⟨w.heap.size, 2, none⟩)] 150)
  have hp2 := Blk.new w1 150 #[.pointer (some ⟨w.heap.size, 0, none⟩), .pointer (some ⟨w.heap.size, 1, none⟩), .pointer (some ⟨w.heap.size, 2, none⟩)]
  have hk2 := kr1.alloc (.cells #[.pointer (some ⟨w.heap.size, 0, none⟩), .pointer (some ⟨w.heap.size, 1, none⟩), .pointer (some ⟨w.heap.size, 2, none⟩)] 150)
  obtain ⟨g, hg⟩ : ∃ g, g = w.heap.size := ⟨_, rfl⟩
  obtain ⟨gp, hgp⟩ : ∃ gp, gp = w1.heap.size := ⟨_, rfl⟩
  have hgg : w.heap.size ≤ g := by omega
  have hne : gp ≠ g := by omega
  rw [← hg] at hd2 hp2 hk2 ⊢
  rw [← hgp] at hp2
  have HD2 := Lib.hid hd2
  have HP2 := Lib.hid hp2
  have HK2 := Lib.hid hk2
  have HG := Lib.hid hg
  have HGP := Lib.hid hgp
  clear k1 kr1 d1 hd2 hp2 hk2 hg hgp hg1
  go_wp2
  (try rw [← HGP.out])
  go_loopw [16] (fun v16 wr => ∃ k : Nat, k ≤ 3 ∧ v16 = .int .i64 (k : Int) ∧ (∀ j : Nat, j < k → (numP ps (1 + j)).isSome = true) ∧ Blk wr g 71 (iv (firstN v k ++ List.replicate 8 0)).toArray ∧ Blk wr gp 150 #[.pointer (some ⟨g, 0, none⟩), .pointer (some ⟨g, 1, none⟩), .pointer (some ⟨g, 2, none⟩)] ∧ Keep [] w wr) (fun v16 _ => 3 - (intOf v16).toNat)
  case atStart => exact ⟨0, by decide, rfl, fun j hj => absurd hj (by omega), HD2.out, HP2.out, HK2.out⟩
  case round =>
    obtain ⟨k, hk, rfl, hall, hbt, hbp, hkw⟩ := hrel
    have HKW := Lib.hid hkw
    have HBT := Lib.hid hbt
    have HBP := Lib.hid hbp
    have HAll := Lib.hid hall
    by_cases h3 : k < 3
    · have q0 := hbp.cell k
      have f0 := hbt.frozen k
      have t0 := hbt.cell k
      have HNk := HN wr hkw (1 + k) (by omega)
      have hvk : Hid (v k = (numP ps (1 + k)).getD 0) := by show _ = _; rw [HV.out]
      have hset : Hid ((iv (firstN v k ++ List.replicate 8 0)).toArray.setIfInBounds k (.int .i64 (v k)) = (iv (firstN v (k + 1) ++ List.replicate 8 0)).toArray) := by
        show _ = _
        have : k = 0 ∨ k = 1 ∨ k = 2 := by omega
        rcases this with rfl | rfl | rfl <;> rfl
      clear hall hbt hbp hkw hk
      have hkk : k = 0 ∨ k = 1 ∨ k = 2 := by omega
      cases hn : numP ps (1 + k) with
      | none =>
        rw [hn] at HNk
        simp only [Option.getD_none, Option.isSome_none] at HNk
        have hT : Hid (taskP ps = none) := by
          show _ = _
          unfold taskP
          rcases hkk with rfl | rfl | rfl
          · rw [hn]; rfl
          · rw [hn]; cases numP ps 1 <;> rfl
          · rw [hn]; cases numP ps 1 <;> cases numP ps 2 <;> rfl
        clear hn hset hvk
        have HRet : Hid (Chg b R imgUs w wr) := Chg.of0 HKW.out
        rcases hkk with rfl | rfl | rfl
        all_goals
          simp at q0
          go_wp2_with fail
          refine HNk.out.mono ?_
          rintro e w5 ⟨rfl, rfl⟩
          go_wp2
          go_ret
          rw [hT.out]
          exact ⟨rfl, HRet.out, fun y hy => (by cases hy)⟩
      | some n =>
        rw [hn] at HNk hvk
        simp only [Option.getD_some, Option.isSome_some] at HNk hvk
        have hall2 : Hid (∀ j : Nat, j < k + 1 → (numP ps (1 + j)).isSome = true) := fun j hj => by
          rcases Nat.lt_or_ge j k with h | h
          · exact HAll.out j h
          · obtain rfl : j = k := by omega
            rw [hn]; rfl
        have hB2 : Hid (Blk (wr.setCell ⟨g, k, none⟩ (.int .i64 n)) g 71 (iv (firstN v (k + 1) ++ List.replicate 8 0)).toArray) := by
          show Blk _ _ _ _
          rw [← hset.out, hvk.out]
          exact HBT.out.set_ k _
        have hP3 : Hid (Blk (wr.setCell ⟨g, k, none⟩ (.int .i64 n)) gp 150 #[.pointer (some ⟨g, 0, none⟩), .pointer (some ⟨g, 1, none⟩), .pointer (some ⟨g, 2, none⟩)]) := HBP.out.far hne _
        have hK3 : Hid (Keep [] w (wr.setCell ⟨g, k, none⟩ (.int .i64 n))) := HKW.out.setCell (fun h => by dsimp only at h; omega) _
        clear hn hset hvk HAll
        rcases hkk with rfl | rfl | rfl
        all_goals
          simp at q0
          simp [firstN] at t0
          go_wp2_with fail
          refine HNk.out.mono ?_
          rintro e w5 ⟨rfl, rfl⟩
          go_wp2
          go_roundw
          case rel => exact ⟨_, by omega, by go_num, hall2.out, hB2.out, hP3.out, hK3.out⟩
          case measure => simp [intOf]
    · obtain rfl : k = 3 := by omega
      obtain ⟨a1, h1⟩ := Option.isSome_iff_exists.1 (hall 0 (by decide))
      obtain ⟨a2, h2⟩ := Option.isSome_iff_exists.1 (hall 1 (by decide))
      obtain ⟨a3, h3'⟩ := Option.isSome_iff_exists.1 (hall 2 (by decide))
      have h4 : 4 ≤ ps.length := by
        rcases Nat.lt_or_ge 3 ps.length with h | h
        · exact h
        · unfold numP at h3'
          rw [List.getElem?_eq_none (by omega)] at h3'
          cases h3'
      have hT : Hid (taskP ps = (pairsP 58 (ps.drop 4) (List.replicate 8 0)).map fun l => ⟨a1, a2, a3, l⟩) := by
        show _ = _
        unfold taskP
        rw [h1, h2, h3']
        rfl
      have hB3 : Blk wr g 71 (iv (a1 :: a2 :: a3 :: List.replicate 8 0)).toArray := by
        have e : firstN v 3 ++ List.replicate 8 0 = a1 :: a2 :: a3 :: List.replicate 8 0 := by
          unfold firstN
          rw [HV.out]
          simp [h1, h2, h3']
        rw [← e]
        exact hbt
      have HB3 := Lib.hid hB3
      have hRw := HR.out.keep0 hkw
      have q4 := hRw.blk.cell 4
      have hpr := Reads.of_own hRw.pcs
      have hcap := own_cap hRw.pcs
      have p4 : (4 : Int) ≤ (ps.length : Int) := by omega
      have p5 : (ps.length : Int) ≤ (cc : Int) := by omega
      have hB4 : Hid (Blk wr g 71 (tskCells ⟨a1, a2, a3, List.replicate 8 0⟩).toArray) := HB3.out
      clear h1 h2 h3' hall hbt hbp HBT HBP HAll hB3 h3 hk HB3
      have hcc : cc = 4 ∨ cc ≠ 4 := by omega
      rcases hcc with hcc | hcc
      case' inl =>
        have hc0 : cc - 4 = 0 := by omega
        have HRD : ∀ W, Keep [] w W → Hid (Reads W 1 A (ps.length - 4) (strs (ps.drop 4))) := fun W k => reads_drop (Reads.of_own (HR.out.keep0 k).pcs) h4 (by omega)
        clear hcc
        go_wp2
        have hcc : cc ≠ 5000000 := by omega
      case' inr =>
        have HRD : ∀ W, Keep [] w W → Hid (Reads W 1 (Option.map (fun (x : Addr) => ({ block := x.block, off := x.off + 4 } : Addr)) A) (ps.length - 4) (strs (ps.drop 4))) := fun W k => reads_drop' (Reads.of_own (HR.out.keep0 k).pcs) h4
        go_wp2
      all_goals
        have hz4 : ∀ p ∈ ps.drop 4, p.size ≤ 1000000 := fun p hp => hz p (List.mem_of_mem_drop hp)
        have hd4 : (ps.drop 4).length = ps.length - 4 := by simp
        generalize hqs : ps.drop 4 = qs at *
        obtain ⟨n4, hn4⟩ : ∃ n4, n4 = ps.length - 4 := ⟨_, rfl⟩
        rw [← hn4] at HRD hd4 ⊢
        have HKW4 := Lib.hid HKW.out
        have hn9 : n4 ≤ 1000001 := by omega
        have HNN := Lib.hid hn4
        have HQS := Lib.hid hqs
        clear hn4 hqs q4 hpr hcap p4 p5 hkw hRw hcc h4
        generalize wr = wo at *
        rw [show ((3 : Nat) : Int) = 3 from rfl]
        go_loopw [40] (fun v40 wr => ∃ (k : Nat) (lon : List Int), k ≤ n4 ∧ v40 = .int .i64 (k : Int) ∧ pairsP 58 qs (List.replicate 8 0) = pairsP 58 (qs.drop k) lon ∧ lon.length = 8 ∧ Blk wr g 71 (tskCells ⟨a1, a2, a3, lon⟩).toArray ∧ Keep [] w wr) (fun v40 _ => n4 - (intOf v40).toNat)
        case atStart => exact ⟨0, _, Nat.zero_le _, rfl, rfl, rfl, hB4.out, HKW4.out⟩
        case round =>
          obtain ⟨k, lon, hk, rfl, hpp, hln, hbt, hkw⟩ := hrel
          have HKW := Lib.hid hkw
          have HBT := Lib.hid hbt
          by_cases hlt : k < n4
          · obtain ⟨bp, op, hA, hbp, hc⟩ := (HRD _ hkw).out.addr (by omega)
            have hkq : k < qs.length := by omega
            have qc := hc k (.string qs[k]) (by simp [strs, hkq])
            have hpq : Hid (pairsP 58 qs (List.replicate 8 0) = (pairP 58 qs[k] lon).bind (pairsP 58 (qs.drop (k + 1)))) := by show _ = _; rw [hpp, List.drop_eq_getElem_cons hkq]; rfl
            have hq6 := hz4 qs[k] (List.getElem_mem hkq)
            have HPA := Lib.hid (pair_any12 qs[k] 58 g 3 71 _ lon wr ⟨hbt, fun j hj => by simp [tskCells, tskInts, Nat.add_comm 3 j, hj]⟩ hq6 (by omega))
            rw [hln] at HPA
            have p0 : (0 : Int) ≤ (k : Int) := by omega
            have p1 : (k : Int) < (n4 : Int) := by omega
            clear hc hpp hbt hkw
            rw [hA]
            have HA := Lib.hid hA
            clear hA
            generalize qs[k] = q at *
            cases hpr : pairP 58 q lon with
            | none =>
              rw [hpr] at HPA hpq
              have hTN : Hid (taskP ps = none) := by show _ = _; rw [hT.out, hpq.out]; rfl
              clear hpr hpq
              go_wp2_with fail
              refine HPA.out.mono ?_
              rintro e w5 ⟨rfl, he5, _⟩
              obtain rfl := he5 trivial
              go_wp2
              go_ret
              rw [hTN.out]
              exact ⟨rfl, Chg.of0 HKW.out, fun y hy => (by cases hy)⟩
            | some lon2 =>
              rw [hpr] at HPA hpq
              have hl2 : lon2.length = 8 := (pairP_len hpr).trans hln
              have hE : Hid (pairsP 58 qs (List.replicate 8 0) = pairsP 58 (qs.drop (k + 1)) lon2) := by show _ = _; rw [hpq.out]; rfl
              clear hpr hpq
              go_wp2_with fail
              refine HPA.out.mono ?_
              rintro e w5 ⟨rfl, _, he5⟩
              obtain ⟨j, n, hj, e5, rfl⟩ := he5 lon2 rfl
              have hB5 : Hid (Blk (wr.setCell ⟨g, 3 + j, none⟩ (.int .i64 n)) g 71 (tskCells ⟨a1, a2, a3, lon2⟩).toArray) := by
                show Blk _ _ _ _
                rw [e5, ← tsk_set]
                exact HBT.out.set_ (3 + j) _
              have hK5 : Hid (Keep [] w (wr.setCell ⟨g, 3 + j, none⟩ (.int .i64 n))) := HKW.out.setCell (fun h => by dsimp only at h; omega) _
              clear e5 hj
              go_wp2
              (try rw [← HA.out])
              go_roundw
              case rel => exact ⟨k + 1, lon2, by omega, by go_num, hE.out, hl2, hB5.out, hK5.out⟩
              case measure => simp [intOf]; omega
          · have hTS : Hid (taskP ps = some ⟨a1, a2, a3, lon⟩) := by
              show _ = _
              rw [hT.out, hpp, List.drop_eq_nil_iff.2 (by omega)]
              rfl
            have hRw := HR.out.keep0 hkw
            have hgr : g ∉ vt.ownBlock.toList := fun hm => by have := row_lt HR.out.own.tasks _ hm; omega
            have hnR : R ∉ vt.ownBlock.toList := fun hm => unown_ne hRw.own.tasks hRw.blk (by decide) (by simpa using hm)
            have hG : ∀ w', Keep vt.ownBlock.toList wr w' → w'.cell? ⟨R, 1, none⟩ = some vt ∧ CellsAt w' g 0 (tskCells ⟨a1, a2, a3, lon⟩) := fun w' k => ⟨(hRw.blk.keep k hnR).cell 1, (hbt.keep k hgr).cellsAt⟩
            have HRW := Lib.hid hRw
            have HNR := Lib.hid hnR
            have hgw := hbt.lt
            have hbR := hRw.le
            have hRl := hRw.blk.lt
            have htc : Hid ((tskCells ⟨a1, a2, a3, lon⟩).length = 11) := tskCells_len hln
            have hone := iv_one (tskInts ⟨a1, a2, a3, lon⟩)
            have hone2 : ∀ u ∈ tskCells ⟨a1, a2, a3, lon⟩, u.oneCell' = true := hone
            clear hpp hbt hkw hRw hnR hgr hone
            generalize htt : (⟨a1, a2, a3, lon⟩ : Tsk) = t at *
            go_wp2
            refine ap_begin 12 (Keep vt.ownBlock.toList wr) rfl (Keep.refl _ _).drew (fun hS hPan => ?_) (fun _ _ d _ _ h => by cases d <;> exact h)
            (refine ap_val (v := ?_) 0 rfl (by kernel_rfl) (by kernel_rfl) (by kernel_rfl) (by kernel_rfl) (by rfl) hPan ?_ hS ?_; rotate_left; (intro w' hSw; go_simp; try with_reducible rfl); simp only [Act.put, List.setIfInBounds_toArray, List.set_cons_zero, List.set_cons_succ])
            (refine ap_val (v := ?_) 1 rfl (by kernel_rfl) (by kernel_rfl) (by kernel_rfl) (by kernel_rfl) (by rfl) hPan ?_ hS ?_; rotate_left; (intro w' hSw; go_simp; try with_reducible rfl); simp only [Act.put, List.setIfInBounds_toArray, List.set_cons_zero, List.set_cons_succ])
            (refine ap_val (v := ?_) 2 rfl (by kernel_rfl) (by kernel_rfl) (by kernel_rfl) (by kernel_rfl) (by rfl) hPan ?_ hS ?_; rotate_left; (intro w' hSw; go_simp; try with_reducible rfl); simp only [Act.put, List.setIfInBounds_toArray, List.set_cons_zero, List.set_cons_succ])
            (refine ap_val (v := ?_) 3 rfl (by kernel_rfl) (by kernel_rfl) (by kernel_rfl) (by kernel_rfl) (by rfl) hPan ?_ hS ?_; rotate_left; (intro w' hSw; go_simp; try with_reducible rfl); simp only [Act.put, List.setIfInBounds_toArray, List.set_cons_zero, List.set_cons_succ])
            (refine ap_val (v := ?_) 4 rfl (by kernel_rfl) (by kernel_rfl) (by kernel_rfl) (by kernel_rfl) (by rfl) hPan ?_ hS ?_; rotate_left; (intro w' hSw; go_simp; try with_reducible rfl); simp only [Act.put, List.setIfInBounds_toArray, List.set_cons_zero, List.set_cons_succ])
            (refine ap_val (v := ?_) 5 rfl (by kernel_rfl) (by kernel_rfl) (by kernel_rfl) (by kernel_rfl) (by rfl) hPan ?_ hS ?_; rotate_left; (intro w' hSw; obtain ⟨f1,f2⟩ := hG w' hSw; go_simp; try with_reducible rfl); simp only [Act.put, List.setIfInBounds_toArray, List.set_cons_zero, List.set_cons_succ])
            refine ap_agg 6 71 (.tmp 3) (tskCells t) rfl (by kernel_rfl) (by kernel_rfl) (by kernel_rfl) (by kernel_rfl) (by rfl) hPan rfl rfl (by rw [htc.out]; exact agg_task) (fun w' h => (hG w' h).2) hS ?_
            (simp only [Act.put, List.setIfInBounds_toArray, List.set_cons_zero, List.set_cons_succ])
            have kA : Keep [] wr (wr.drew.alloc (.cells (tskCells t).toArray 71)) := (Keep.refl [] wr).drew.alloc _
            have DA : CellsAt (wr.drew.alloc (.cells (tskCells t).toArray 71)) wr.heap.size 0 (tskCells t) := (Blk.new wr.drew 71 (tskCells t).toArray).cellsAt
            refine ap_one 7 (by kernel_rfl) ?_
            refine op_run (v := .slice (some ⟨wr.heap.size, 0, none⟩) 1 1) (w' := wr.drew.alloc (.cells (tskCells t).toArray 71)) 7 rfl (by rfl) (exec_slice_one slice_task htc.out (by decide) rfl _) ?_
            refine ⟨fun _ => hS.alloc _, ?_⟩
            replace hS := hS.alloc (.cells (tskCells t).toArray 71)
            (simp only [Act.put, List.setIfInBounds_toArray, List.set_cons_zero, List.set_cons_succ])
            have OA := own_keep0 HRW.out.own.tasks kA
            have hOA := HRW.out.keep0 kA
            generalize wr.drew.alloc (.cells (tskCells t).toArray 71) = w3 at *
            have h63 := kA.size
            refine ap_one 8 (by kernel_rfl) ?_
            refine op_app 8 1 (.tmp 55) (.tmp 57) 22 rfl (by rfl) rfl slice_task OA rfl rfl DA (by rw [htc.out]) hone2 (by omega) (by omega) (by unfold maxLen; omega) ?_
            intro v' w4 hown4 k4 _
            have hS4 : Keep vt.ownBlock.toList wr w4 := hS.trans k4 (fun x hx _ => hx)
            refine ⟨fun _ => hS4, ?_⟩
            (simp only [Act.put, List.setIfInBounds_toArray, List.set_cons_zero, List.set_cons_succ])
            replace hS := hS4
            (refine ap_val (v := ?_) 9 rfl (by kernel_rfl) (by kernel_rfl) (by kernel_rfl) (by kernel_rfl) (by rfl) hPan ?_ hS ?_; rotate_left; (intro w' hSw; go_simp; try with_reducible rfl); simp only [Act.put, List.setIfInBounds_toArray, List.set_cons_zero, List.set_cons_succ])
            (refine ap_val (v := ?_) 10 rfl (by kernel_rfl) (by kernel_rfl) (by kernel_rfl) (by kernel_rfl) (by rfl) hPan ?_ hS ?_; rotate_left; (intro w' hSw; go_simp; try with_reducible rfl); simp only [Act.put, List.setIfInBounds_toArray, List.set_cons_zero, List.set_cons_succ])
            (refine ap_val (v := ?_) 11 rfl (by kernel_rfl) (by kernel_rfl) (by kernel_rfl) (by kernel_rfl) (by rfl) hPan ?_ hS ?_; rotate_left; (intro w' hSw; go_simp; try with_reducible rfl); simp only [Act.put, List.setIfInBounds_toArray, List.set_cons_zero, List.set_cons_succ])
            have hb4 := hOA.blk.keep k4 HNR.out
            have ho4 := hOA.own.task t (by rw [← htt]; exact hln) k4 hown4
            have hp4 := own_keep hOA.pcs k4 (row_apart hOA.own.tasks hOA.pcs (by decide))
            have HF4 := Lib.hid (RdrV.store (y := { x with tasks := x.tasks ++ [t] }) hb4 ho4 hp4 (Nat.le_trans hOA.le k4.size) 1 v' rfl)
            have HC4 : Hid (Chg b R imgUs w (w4.setCell ⟨R, 1, none⟩ v')) := by
              refine (Chg.of0 HKW.out).trans (HRW.out.chg (F := R :: vt.ownBlock.toList) ((hS4.mono (fun y hy _ => List.mem_cons_of_mem _ hy)).setCell (by simp) v') (fun y hy _ => ?_))
              rcases List.mem_cons.1 hy with hy | hy
              · exact .inl hy
              · exact .inr (.inl hy)
            obtain ⟨A', c', rfl⟩ := own_shape hown4
            refine ap_one 12 (by kernel_rfl) ?_
            refine op_store1 12 rfl (by rfl) rfl rfl rfl rfl rfl rfl (hb4.cell 1) (hb4.frozen 1) ?_
            refine ⟨fun h => (by cases h), ap_done (by kernel_rfl) ?_ _⟩
            (simp only [Act.put])
            clear hS hS4 hPan kA DA OA hOA hown4 k4 hb4 ho4 hp4
            go_wp2
            go_ret
            rw [hTS.out]
            exact ⟨rfl, HC4.out, fun y hy => (by cases hy; exact ⟨_, _, _, _, HF4.out⟩)⟩
end Go.Proofs.Ytoepkhkaifgddaa

namespace Go.Proofs.Ytoepkhkaifgddaa
open Go.RowKit

theorem bit_or (s j : Nat) (hs : s < 4294967296) (hj : j < 32) : bits .or .u32 (s : Int) (2 ^ j % 4294967296) = ((s ||| 2 ^ j : Nat) : Int) := by
  have h2 : 2 ^ j < 2 ^ 32 := Nat.pow_lt_pow_right (by decide) hj
  have e : ((2 : Int) ^ j % 4294967296) = ((2 ^ j : Nat) : Int) := by
    have : ((2 ^ j : Nat) : Int) = (2 : Int) ^ j := by norm_cast
    rw [← this]
    have key : ∀ p : Nat, p < 4294967296 → ((p : Int) % 4294967296) = (p : Int) := fun p hp => by omega
    exact key (2 ^ j) h2
  rw [e]
  exact u32_or_nat s (2 ^ j) hs h2

set_option maxRecDepth 100000 in
set_option maxHeartbeats 4000000 in
theorem mode_any12 (b R : Nat) (x : Img) (vp : Value) (ps : List ByteArray) (w : World) (h : RdrIs w b R x vp ps) (hl : ps.length ≤ 1000001) (hz : ∀ p ∈ ps, p.size ≤ 1000000) (hxl : x.modes.length ≤ 1000000) (hp1 : 1 ≤ ps.length) :
    Calls Try.prog 69 #[.pointer (some ⟨R, 0, none⟩)] w (LinePost w b R ((bitsP (ps.drop 1) 0).map fun s => { x with modes := x.modes ++ [⟨s, []⟩] }) vp ps) := by
  obtain ⟨vt, vm, ve, ms, hR⟩ := h
  obtain ⟨A, cc, rfl⟩ := own_shape hR.pcs
  have HR := Lib.hid hR
  have HN := fun W (k : Keep [] w W) i (hi : i ≤ 1000000) => Lib.hid ((hR.keep0 k).num hl hz (i := i) hi)
  have hcap := own_cap hR.pcs
  have hb0 := Blk.new w 80 #[.int .u32 0, .slice none 0 0]
  have hk0 := (Keep.refl [] w).alloc (.cells #[.int .u32 0, .slice none 0 0] 80)
  have q4 := (hR.keep0 hk0).blk.cell 4
  have p1 : (1 : Int) ≤ (ps.length : Int) := by omega
  have p2 : (ps.length : Int) ≤ (cc : Int) := by omega
  obtain ⟨g, hg⟩ : ∃ g, g = w.heap.size := ⟨_, rfl⟩
  have hgg : w.heap.size ≤ g := by omega
  rw [← hg] at hb0
  have HB0 := Lib.hid hb0
  have HK0 := Lib.hid hk0
  have HG := Lib.hid hg
  have hcc : cc = 1 ∨ cc ≠ 1 := by omega
  clear hR hb0 hk0 hg
  go_enter Try.func69, Try.ntmps69
  rcases hcc with hcc | hcc
  case' inl =>
    have hc0 : cc - 1 = 0 := by omega
    clear hcc
    go_wp2
    have hcc : cc ≠ 5000000 := by omega
  case' inr =>
    go_wp2
  all_goals
    have hd1 : (ps.drop 1).length = ps.length - 1 := by simp
    have hget : Hid (∀ k, (hk : k < (ps.drop 1).length) → numP ps (1 + k) = if (readP (bytesOf (ps.drop 1)[k])).2 = 0 then some (readP (bytesOf (ps.drop 1)[k])).1 else none) := fun k hk => by
      have h1 : 1 + k < ps.length := by omega
      unfold numP
      rw [List.getElem?_eq_getElem h1]
      simp [Nat.add_comm 1 k]
    generalize hqs : ps.drop 1 = qs at *
    obtain ⟨n4, hn4⟩ : ∃ n4, n4 = ps.length - 1 := ⟨_, rfl⟩
    rw [← hn4] at hd1 ⊢
    have hn9 : n4 ≤ 1000000 := by omega
    have HNN := Lib.hid hn4
    have HQS := Lib.hid hqs
    clear hn4 hqs q4 hcap p1 p2 hcc hp1
    (try rw [← HG.out])
    go_loopw [14] (fun v14 wr => ∃ (k s : Nat), k ≤ n4 ∧ v14 = .int .i64 (k : Int) ∧ bitsP qs 0 = bitsP (qs.drop k) s ∧ s < 4294967296 ∧ Blk wr g 80 #[.int .u32 (s : Int), .slice none 0 0] ∧ Keep [] w wr) (fun v14 _ => n4 - (intOf v14).toNat)
    case atStart => exact ⟨0, 0, Nat.zero_le _, rfl, rfl, by decide, HB0.out, HK0.out⟩
    case round =>
      obtain ⟨k, s, hk, rfl, hpp, hs, hbt, hkw⟩ := hrel
      have HKW := Lib.hid hkw
      have HBT := Lib.hid hbt
      by_cases hlt : k < n4
      · have hkq : k < qs.length := by omega
        have hpq : Hid (bitsP qs 0 = (bitP qs[k] s).bind (bitsP (qs.drop (k + 1)))) := by show _ = _; rw [hpp, List.drop_eq_getElem_cons hkq]; rfl
        have HNk := HN wr hkw (1 + k) (by omega)
        have hnk := hget.out k hkq
        have hbp : Hid (bitP qs[k] s = if (readP (bytesOf qs[k])).2 = 0 ∧ (readP (bytesOf qs[k])).1 ≤ 31 ∧ s.testBit (readP (bytesOf qs[k])).1.toNat = false then some (s ||| 2 ^ (readP (bytesOf qs[k])).1.toNat) else none) := rfl
        have hrr := readP_range (bytesOf qs[k])
        have p0 : (0 : Int) ≤ (k : Int) := by omega
        have p1 : (k : Int) < (n4 : Int) := by omega
        have f0 := hbt.cell 0
        have z0 := hbt.frozen 0
        rw [hnk] at HNk
        clear hpp hbt hkw hnk
        generalize readP (bytesOf qs[k]) = r at *
        generalize bitP qs[k] s = bp at *
        obtain ⟨r1, r2⟩ := r
        dsimp only at HNk hbp hrr
        by_cases hr2 : r2 = 0
        · rw [if_pos hr2] at HNk
          subst hr2
          simp only [Option.getD_some, Option.isSome_some] at HNk
          obtain ⟨j, rfl⟩ : ∃ j : Nat, r1 = (j : Int) := ⟨r1.toNat, by omega⟩
          rw [Int.toNat_natCast] at hbp
          by_cases hj : j ≤ 31
          · have hbit := bit_and s j hs
            cases htb : s.testBit j
            · rw [htb] at hbit hbp
              have hE : Hid (bitsP qs 0 = bitsP (qs.drop (k + 1)) (s ||| 2 ^ j)) := by show _ = _; rw [hpq.out, hbp.out, if_pos ⟨rfl, by omega, rfl⟩]; rfl
              go_wp2_with fail
              refine HNk.out.mono ?_
              rintro e w5 ⟨rfl, rfl⟩
              go_wp2
              go_region
              have hor := bit_or s j hs (by omega)
              have hlt2 := Nat.or_lt_two_pow (n := 32) hs (Nat.pow_lt_pow_right (m := j) (n := 32) (by decide : 1 < 2) (by omega))
              have hB5 : Hid (Blk (wr.setCell ⟨g, 0, none⟩ (.int .u32 (bits .or .u32 (s : Int) (2 ^ j % 4294967296)))).drew g 80 #[.int .u32 ((s ||| 2 ^ j : Nat) : Int), .slice none 0 0]) := by
                rw [hor]
                exact (HBT.out.set_ 0 _).drew
              have hK5 : Hid (Keep [] w (wr.setCell ⟨g, 0, none⟩ (.int .u32 (bits .or .u32 (s : Int) (2 ^ j % 4294967296)))).drew) := (HKW.out.setCell (fun h => by dsimp only at h; omega) _).drew
              have hlt3 := Lib.hid hlt2
              clear hor hlt2 htb hbp hbit
              go_wp2
              go_roundw
              case rel => exact ⟨k + 1, s ||| 2 ^ j, by omega, by go_num, hE.out, hlt3.out, hB5.out, hK5.out⟩
              case measure => simp [intOf]; omega
            · rw [htb] at hbit hbp
              have hTN : Hid (bitsP qs 0 = none) := by show _ = _; rw [hpq.out, hbp.out, if_neg (by rintro ⟨_, _, h⟩; cases h)]; rfl
              clear htb hbp hpq
              go_wp2_with fail
              refine HNk.out.mono ?_
              rintro e w5 ⟨rfl, rfl⟩
              go_wp2
              go_ret
              rw [HQS.out, hTN.out]
              exact ⟨rfl, Chg.of0 HKW.out, fun y hy => (by cases hy)⟩
          · have hTN : Hid (bitsP qs 0 = none) := by show _ = _; rw [hpq.out, hbp.out, if_neg (by rintro ⟨_, h, _⟩; omega)]; rfl
            have p3 : (31 : Int) < (j : Int) := by omega
            clear hbp hpq
            go_wp2_with fail
            refine HNk.out.mono ?_
            rintro e w5 ⟨rfl, rfl⟩
            go_wp2
            go_ret
            rw [HQS.out, hTN.out]
            exact ⟨rfl, Chg.of0 HKW.out, fun y hy => (by cases hy)⟩
        · rw [if_neg hr2] at HNk
          simp only [Option.getD_none, Option.isSome_none] at HNk
          have hTN : Hid (bitsP qs 0 = none) := by show _ = _; rw [hpq.out, hbp.out, if_neg (by rintro ⟨h, _⟩; exact hr2 h)]; rfl
          clear hbp hpq
          go_wp2_with fail
          refine HNk.out.mono ?_
          rintro e w5 ⟨rfl, rfl⟩
          go_wp2
          go_ret
          rw [HQS.out, hTN.out]
          exact ⟨rfl, Chg.of0 HKW.out, fun y hy => (by cases hy)⟩
      · have hTS : Hid (bitsP qs 0 = some s) := by
          show _ = _
          rw [hpp, List.drop_eq_nil_iff.2 (by omega)]
          rfl
        have hRw := HR.out.keep0 hkw
        have hgr : g ∉ vm.ownBlock.toList := fun hm => by have := row_lt HR.out.own.modes _ hm; omega
        have hnR : R ∉ vm.ownBlock.toList := fun hm => unown_ne hRw.own.modes hRw.blk (by decide) (by simpa using hm)
        have hG : ∀ w', Keep vm.ownBlock.toList wr w' → w'.cell? ⟨R, 2, none⟩ = some vm ∧ CellsAt w' g 0 [.int .u32 (s : Int), .slice none 0 0] := fun w' k => ⟨(hRw.blk.keep k hnR).cell 2, (hbt.keep k hgr).cellsAt⟩
        have HRW := Lib.hid hRw
        have HNR := Lib.hid hnR
        have hgw := hbt.lt
        have hbR := hRw.le
        have hRl := hRw.blk.lt
        have hone2 : ∀ u ∈ [Value.int .u32 (s : Int), .slice none 0 0], u.oneCell' = true := by intro u hu; simp at hu; rcases hu with rfl | rfl <;> rfl
        clear hpp hbt hkw hRw hnR hgr
        go_wp2
        refine ap_begin 12 (Keep vm.ownBlock.toList wr) rfl (Keep.refl _ _).drew (fun hS hPan => ?_) (fun _ _ d _ _ h => by cases d <;> exact h)
        (refine ap_val (v := ?_) 0 rfl (by kernel_rfl) (by kernel_rfl) (by kernel_rfl) (by kernel_rfl) (by rfl) hPan ?_ hS ?_; rotate_left; (intro w' hSw; go_simp; try with_reducible rfl); simp only [Act.put, List.setIfInBounds_toArray, List.set_cons_zero, List.set_cons_succ])
        (refine ap_val (v := ?_) 1 rfl (by kernel_rfl) (by kernel_rfl) (by kernel_rfl) (by kernel_rfl) (by rfl) hPan ?_ hS ?_; rotate_left; (intro w' hSw; go_simp; try with_reducible rfl); simp only [Act.put, List.setIfInBounds_toArray, List.set_cons_zero, List.set_cons_succ])
        (refine ap_val (v := ?_) 2 rfl (by kernel_rfl) (by kernel_rfl) (by kernel_rfl) (by kernel_rfl) (by rfl) hPan ?_ hS ?_; rotate_left; (intro w' hSw; go_simp; try with_reducible rfl); simp only [Act.put, List.setIfInBounds_toArray, List.set_cons_zero, List.set_cons_succ])
        (refine ap_val (v := ?_) 3 rfl (by kernel_rfl) (by kernel_rfl) (by kernel_rfl) (by kernel_rfl) (by rfl) hPan ?_ hS ?_; rotate_left; (intro w' hSw; go_simp; try with_reducible rfl); simp only [Act.put, List.setIfInBounds_toArray, List.set_cons_zero, List.set_cons_succ])
        (refine ap_val (v := ?_) 4 rfl (by kernel_rfl) (by kernel_rfl) (by kernel_rfl) (by kernel_rfl) (by rfl) hPan ?_ hS ?_; rotate_left; (intro w' hSw; go_simp; try with_reducible rfl); simp only [Act.put, List.setIfInBounds_toArray, List.set_cons_zero, List.set_cons_succ])
        (refine ap_val (v := ?_) 5 rfl (by kernel_rfl) (by kernel_rfl) (by kernel_rfl) (by kernel_rfl) (by rfl) hPan ?_ hS ?_; rotate_left; (intro w' hSw; obtain ⟨f1,f2⟩ := hG w' hSw; go_simp; try with_reducible rfl); simp only [Act.put, List.setIfInBounds_toArray, List.set_cons_zero, List.set_cons_succ])
        refine ap_agg 6 80 (.tmp 3) [.int .u32 (s : Int), .slice none 0 0] rfl (by kernel_rfl) (by kernel_rfl) (by kernel_rfl) (by kernel_rfl) (by rfl) hPan rfl rfl agg_mode (fun w' h => (hG w' h).2) hS ?_
        (simp only [Act.put, List.setIfInBounds_toArray, List.set_cons_zero, List.set_cons_succ])
        have kA : Keep [] wr (wr.drew.alloc (.cells #[.int .u32 (s : Int), .slice none 0 0] 80)) := (Keep.refl [] wr).drew.alloc _
        have DA : CellsAt (wr.drew.alloc (.cells #[.int .u32 (s : Int), .slice none 0 0] 80)) wr.heap.size 0 [.int .u32 (s : Int), .slice none 0 0] := (Blk.new wr.drew 80 #[.int .u32 (s : Int), .slice none 0 0]).cellsAt
        refine ap_one 7 (by kernel_rfl) ?_
        refine op_run (v := .slice (some ⟨wr.heap.size, 0, none⟩) 1 1) (w' := wr.drew.alloc (.cells #[.int .u32 (s : Int), .slice none 0 0] 80)) 7 rfl (by rfl) (exec_slice_one slice_mode (cs := [.int .u32 (s : Int), .slice none 0 0]) rfl (by decide) rfl _) ?_
        refine ⟨fun _ => hS.alloc _, ?_⟩
        replace hS := hS.alloc (.cells #[.int .u32 (s : Int), .slice none 0 0] 80)
        (simp only [Act.put, List.setIfInBounds_toArray, List.set_cons_zero, List.set_cons_succ])
        have OA := own_keep0 HRW.out.own.modes kA
        have hOA := HRW.out.keep0 kA
        generalize wr.drew.alloc (.cells #[.int .u32 (s : Int), .slice none 0 0] 80) = w3 at *
        have h63 := kA.size
        refine ap_one 8 (by kernel_rfl) ?_
        refine op_app 8 1 (.tmp 50) (.tmp 52) 23 rfl (by rfl) rfl slice_mode OA rfl rfl DA rfl hone2 (by omega) (by omega) (by unfold maxLen; omega) ?_
        intro v' w4 hown4 k4 _
        have hS4 : Keep vm.ownBlock.toList wr w4 := hS.trans k4 (fun x hx _ => hx)
        refine ⟨fun _ => hS4, ?_⟩
        (simp only [Act.put, List.setIfInBounds_toArray, List.set_cons_zero, List.set_cons_succ])
        replace hS := hS4
        (refine ap_val (v := ?_) 9 rfl (by kernel_rfl) (by kernel_rfl) (by kernel_rfl) (by kernel_rfl) (by rfl) hPan ?_ hS ?_; rotate_left; (intro w' hSw; go_simp; try with_reducible rfl); simp only [Act.put, List.setIfInBounds_toArray, List.set_cons_zero, List.set_cons_succ])
        (refine ap_val (v := ?_) 10 rfl (by kernel_rfl) (by kernel_rfl) (by kernel_rfl) (by kernel_rfl) (by rfl) hPan ?_ hS ?_; rotate_left; (intro w' hSw; go_simp; try with_reducible rfl); simp only [Act.put, List.setIfInBounds_toArray, List.set_cons_zero, List.set_cons_succ])
        (refine ap_val (v := ?_) 11 rfl (by kernel_rfl) (by kernel_rfl) (by kernel_rfl) (by kernel_rfl) (by rfl) hPan ?_ hS ?_; rotate_left; (intro w' hSw; go_simp; try with_reducible rfl); simp only [Act.put, List.setIfInBounds_toArray, List.set_cons_zero, List.set_cons_succ])
        have hb4 := hOA.blk.keep k4 HNR.out
        have ho4 := hOA.own.mode s hs k4 hown4
        have hp4 := own_keep hOA.pcs k4 (row_apart hOA.own.modes hOA.pcs (by decide))
        have HF4 := Lib.hid (RdrV.store (y := { x with modes := x.modes ++ [⟨s, []⟩] }) hb4 ho4 hp4 (Nat.le_trans hOA.le k4.size) 2 v' rfl)
        have HC4 : Hid (Chg b R imgUs w (w4.setCell ⟨R, 2, none⟩ v')) := by
          refine (Chg.of0 HKW.out).trans (HRW.out.chg (F := R :: vm.ownBlock.toList) ((hS4.mono (fun y hy _ => List.mem_cons_of_mem _ hy)).setCell (by simp) v') (fun y hy _ => ?_))
          rcases List.mem_cons.1 hy with hy | hy
          · exact .inl hy
          · exact .inr (.inr (.inl hy))
        obtain ⟨A', c', rfl⟩ := own_shape hown4
        refine ap_one 12 (by kernel_rfl) ?_
        refine op_store1 12 rfl (by rfl) rfl rfl rfl rfl rfl rfl (hb4.cell 2) (hb4.frozen 2) ?_
        refine ⟨fun h => (by cases h), ap_done (by kernel_rfl) ?_ _⟩
        (simp only [Act.put])
        clear hS hS4 hPan kA DA OA hOA hown4 k4 hb4 ho4 hp4
        go_wp2
        go_ret
        rw [HQS.out, hTS.out]
        exact ⟨rfl, HC4.out, fun y hy => (by cases hy; exact ⟨_, _, _, _, HF4.out⟩)⟩
end Go.Proofs.Ytoepkhkaifgddaa

namespace Go.Proofs.Ytoepkhkaifgddaa
open Go.RowKit

/-- A text held against another one, as an operation. -/
theorem exec_same {a : List UInt8} {p : ByteArray} {ev : Operand → Value} {x y : Operand} {dst : Option Tmp} {ty : TypeId} {pos : String} {after : Array Edge} {gd : Option (Nat × Bool)} (hx : ev x = strOf a) (hy : ev y = .string p) (w : World) :
    (execOp ev ⟨dst, .binOp .eql 9 x y 9, ty, pos, after, gd⟩).run Try.prog w = .ok (.value (.bool (decide (bytesOf p = a)))) w := by
  rw [← strOf_bytes p] at hy
  have e : (eqGuard BinOp.eql 9 x y (strOf a) (strOf (bytesOf p)) : Sem Unit) = pure () := rfl
  have e2 : decide (bytesOf p = a) = decide (a = bytesOf p) := by rw [Bool.eq_iff_iff]; simp; exact eq_comm
  unfold execOp
  rw [e2]
  simp only [hx, hy, e, Sem.run_bind, run_eql_str (P := Try.prog) 9 a (bytesOf p) w, Result.andThen_ok, Sem.run_pure]
theorem wordP_one {W : Int → List UInt8} {p : ByteArray} {k : Nat} (hk : 1 ≤ k ∧ k ≤ 3) (h : bytesOf p = W k) (hn : ∀ j : Nat, 1 ≤ j → j < k → bytesOf p ≠ W j) : wordP W p = k := by
  unfold wordP
  have : k = 1 ∨ k = 2 ∨ k = 3 := by omega
  rcases this with rfl | rfl | rfl
  · exact if_pos h
  · rw [if_neg (show ¬ bytesOf p = W 1 from hn 1 (by decide) (by decide)), if_pos (show bytesOf p = W 2 from h)]; rfl
  · rw [if_neg (show ¬ bytesOf p = W 1 from hn 1 (by decide) (by decide)), if_neg (show ¬ bytesOf p = W 2 from hn 2 (by decide) (by decide)), if_pos (show bytesOf p = W 3 from h)]; rfl
theorem wordP_zero {W : Int → List UInt8} {p : ByteArray} (hn : ∀ j : Nat, 1 ≤ j → j < 4 → bytesOf p ≠ W j) : wordP W p = 0 := by
  unfold wordP
  rw [if_neg (show ¬ bytesOf p = W 1 from hn 1 (by decide) (by decide)), if_neg (show ¬ bytesOf p = W 2 from hn 2 (by decide) (by decide)), if_neg (show ¬ bytesOf p = W 3 from hn 3 (by decide) (by decide))]

set_option maxRecDepth 100000 in
set_option maxHeartbeats 4000000 in
theorem queue_any12 (b R : Nat) (x : Img) (vp : Value) (ps : List ByteArray) (w : World) (h : RdrIs w b R x vp ps) (hl : ps.length ≤ 1000001) (hz : ∀ p ∈ ps, p.size ≤ 1000000) (hxl : x.modes.length ≤ 1000000) (hql : ∀ m ∈ x.modes, m.qs.length ≤ 1000000) :
    Calls Try.prog 70 #[.pointer (some ⟨R, 0, none⟩)] w (LinePost w b R (if x.modes = [] then none else (queueP ps).map fun q => { x with modes := addQ x.modes q }) vp ps) := by
  obtain ⟨vt, vm, ve, ms, hR⟩ := h
  generalize hres : (if x.modes = [] then none else (queueP ps).map fun q => { x with modes := addQ x.modes q } : Option Img) = res
  obtain ⟨A, cc, rfl⟩ := own_shape hR.pcs
  have HR := Lib.hid hR
  have HN := Lib.hid (hR.num hl hz (i := 1) (by decide))
  have q4 := hR.blk.cell 4
  have q2 := hR.blk.cell 2
  obtain ⟨Am, cm, hvm⟩ := own_shape hR.own.modes
  rw [hvm] at q2
  have hkind : ¬ ps.length = 3 ∨ (ps.length = 3 ∧ x.modes = []) ∨ (ps.length = 3 ∧ ¬ x.modes = []) := by
    by_cases h1 : ps.length = 3 <;> by_cases h2 : x.modes = [] <;> simp [h1, h2]
  cases hn : numP ps 1 with
  | none =>
    have hT : Hid (res = none) := by
      show _ = _
      rw [← hres]
      split
      · rfl
      · unfold queueP
        rw [hn]
        split <;> rfl
    rw [hn] at HN
    simp only [Option.getD_none, Option.isSome_none] at HN
    clear hkind hn hR hres
    go_enter Try.func70, Try.ntmps70
    go_wp2_with fail
    refine HN.out.mono ?_
    rintro e w1 ⟨rfl, rfl⟩
    go_wp2
    go_ret
    rw [hT.out]
    exact ⟨rfl, Chg.refl _ _ _ _, fun y hy => (by cases hy)⟩
  | some n =>
    rw [hn] at HN
    simp only [Option.getD_some, Option.isSome_some] at HN
    rcases hkind with h3 | ⟨h3, h4⟩ | ⟨h3, h4⟩
    · have hT : Hid (res = none) := by
        show _ = _
        rw [← hres]
        split
        · rfl
        · unfold queueP
          rw [if_neg (by rintro ⟨h, _⟩; exact h3 h)]
          rfl
      have q5 : ((ps.length : Int) != 3) = true := by simp; omega
      clear hn hR h3 hres
      go_enter Try.func70, Try.ntmps70
      go_wp2_with fail
      refine HN.out.mono ?_
      rintro e w1 ⟨rfl, rfl⟩
      go_wp2
      go_ret
      rw [hT.out]
      exact ⟨rfl, Chg.refl _ _ _ _, fun y hy => (by cases hy)⟩
    · have hT : Hid (res = none) := by show _ = _; rw [← hres, if_pos h4]
      have q5 : ((ps.length : Int) != 3) = false := by simp; omega
      have q6 : ((x.modes.length : Int) == 0) = true := by rw [h4]; rfl
      clear hn hR h3 h4 hres
      generalize ps.length = pl at *
      generalize x.modes.length = ml at *
      go_enter Try.func70, Try.ntmps70
      go_wp2_with fail
      refine HN.out.mono ?_
      rintro e w1 ⟨rfl, rfl⟩
      go_wp2
      go_ret
      rw [hT.out]
      exact ⟨rfl, Chg.refl _ _ _ _, fun y hy => (by cases hy)⟩
    · obtain ⟨ml, hml⟩ : ∃ ml, x.modes.length = ml + 1 := ⟨x.modes.length - 1, by have := List.length_pos_iff.2 h4; omega⟩
      obtain ⟨gm, cm2, e2, hgb, hgl, csm, hgm⟩ := own_some hR.own.modes (by omega)
      rw [hvm] at e2
      cases e2
      obtain ⟨bp, op, hA, hbp, hc⟩ := (Reads.of_own hR.pcs).addr (by omega)
      have hp3 : 2 < ps.length := by omega
      have hpc := hc 2 (.string ps[2]) (by simp [strs, hp3])
      have hT : Hid (res = if wordP polW ps[2] = 0 then none else some { x with modes := addQ x.modes ⟨n, wordP polW ps[2]⟩ }) := by
        show _ = _
        rw [← hres, if_neg h4]
        unfold queueP
        rw [show ps.getD 2 { data := #[] } = ps[2] by simp [List.getD, hp3], hn]
        by_cases h0 : wordP polW ps[2] = 0
        · rw [if_neg (by rintro ⟨_, h⟩; exact h h0), if_pos h0]; rfl
        · rw [if_pos ⟨h3, h0⟩, if_neg h0]; rfl
      subst hA
      have q5 : ((ps.length : Int) != 3) = false := by simp; omega
      have hF : ∀ w', Keep [] w w' → w'.cell? ⟨R, 4, none⟩ = some (.slice (some ⟨bp, op, none⟩) ps.length cc) ∧ w'.cell? ⟨bp, op + 2, none⟩ = some (.string ps[2]) := fun w' k =>
        ⟨(hR.blk.keep0 k).cell 4, (k.cell (p := ⟨bp, op + 2, none⟩) hbp (by simp)).trans hpc⟩
      have hF2 : ∀ w', Keep [] w w' → w'.cell? ⟨R, 2, none⟩ = some (.slice (some ⟨gm, 0, none⟩) (ml + 1) cm) := fun w' k => by have := (hR.blk.keep0 k).cell 2; rw [hvm, hml] at this; exact this
      have HF := Lib.hid hF
      have HF2 := Lib.hid hF2
      have p3 : (2 : Int) < (ps.length : Int) := by omega
      rw [hml] at q2
      generalize ps[2] = p2 at *
      clear hn hR h3 h4 hres hc hpc hF hF2 hgb
      have q6 : (((ml + 1 : Nat) : Int) == 0) = false := by rw [beq_eq_false_iff_ne]; omega
      go_enter Try.func70, Try.ntmps70
      go_wp2_with fail
      refine HN.out.mono ?_
      rintro e w1 ⟨rfl, rfl⟩
      go_wp2
      go_loopw [5] (fun v5 wr => ∃ k : Nat, 1 ≤ k ∧ k ≤ 4 ∧ v5 = .int .i64 (k : Int) ∧ (∀ j : Nat, 1 ≤ j → j < k → bytesOf p2 ≠ polW j) ∧ Keep [] w wr) (fun v5 _ => 4 - (intOf v5).toNat)
      case atStart => exact ⟨1, by decide, by decide, rfl, fun j h1 h2 => absurd h2 (by omega), Keep.refl _ _⟩
      case round =>
        obtain ⟨k, hk1, hk4, rfl, hno, hkw⟩ := hrel
        have HNO := Lib.hid hno
        have HKW := Lib.hid hkw
        clear hno
        by_cases hk3 : k ≤ 3
        · have HPO := fun W => Lib.hid (policy_any (k : Int) W)
          have p5 : (k : Int) ≤ 3 := by omega
          have hF : ∀ w', Keep [] wr w' → w'.cell? ⟨R, 4, none⟩ = some (.slice (some ⟨bp, op, none⟩) ps.length cc) ∧ w'.cell? ⟨bp, op + 2, none⟩ = some (.string p2) := fun w' kk => HF.out w' (hkw.then kk)
          have HIF := Lib.hid hF
          clear hF hkw
          go_wp2
          have hF := HIF.out
          refine wp_region_flow (Keep [] wr) rfl (by kernel_rfl) (Keep.refl _ _).drew ?_
          repeat (refine fl_val (v := ?_) (by rfl) ?_ ?_; rotate_left; (intro w' hS; obtain ⟨f1,f2⟩ := hF w' hS; go_simp; with_reducible rfl); simp only [Act.put, List.setIfInBounds_toArray, List.set_cons_zero, List.set_cons_succ])
          refine fl_call (f := 40) (v := strOf (polW k)) (by rfl) rfl (by simp only [List.map_toArray, List.map_cons, List.map_nil]; rfl) Try.func40 (by kernel_rfl) (by kernel_rfl) (fun w' hS => (HPO w').out.mono fun e w'' hh => ⟨hh.1, hS.then hh.2⟩) ?_; simp only [Act.put, List.setIfInBounds_toArray, List.set_cons_zero, List.set_cons_succ]
          repeat (refine fl_val (v := ?_) (by rfl) ?_ ?_; rotate_left; (intro w' hS; obtain ⟨f1,f2⟩ := hF w' hS; go_simp; with_reducible rfl); simp only [Act.put, List.setIfInBounds_toArray, List.set_cons_zero, List.set_cons_succ])
          refine fl_val (by rfl) (fun w' _ => exec_same rfl rfl w') ?_
          simp only [Act.put, List.setIfInBounds_toArray, List.set_cons_zero, List.set_cons_succ]
          refine fl_nil ?_
          intro w4 hS
          have HK4 := Lib.hid (HKW.out.then hS)
          clear hF hS
          by_cases heq : bytesOf p2 = polW k
          · have hd : decide (bytesOf p2 = polW k) = true := decide_eq_true heq
            rw [hd]
            have hw := wordP_one ⟨hk1, hk3⟩ heq HNO.out
            have hTS : Hid (res = some { x with modes := addQ x.modes ⟨n, (k : Int)⟩ }) := by
              show _ = _
              rw [hT.out, hw, if_neg (by omega)]
            clear hd heq hw
            have f2 := HF2.out _ HK4.out.drew
            have f2' := HF2.out _ HK4.out
            go_wp2
            go_region
            obtain ⟨l, m, hms⟩ : ∃ l m, ms = l ++ [m] := by
              have h0 : ms ≠ [] := fun e => by have := HR.out.own.len; rw [e, hml] at this; cases this
              exact ⟨_, _, (List.dropLast_concat_getLast h0).symm⟩
            have hll : l.length = ml := by have := HR.out.own.len; rw [hms, hml] at this; simpa using this
            have hR4 := HR.out.keep0 HK4.out.drew
            have ho4 := hR4.own
            rw [hms] at ho4
            have hm4 := ho4.modes
            rw [hvm] at hm4
            have hqv : w4.drew.cell? ⟨gm, ml * 2 + 1, none⟩ = some (queV m) := by
              have := hm4.cells (g := gm) rfl (ml * 2 + 1) (queV m) (by
                have h1 := flat_at (l ++ [m]) (cells := mddCells) (size := 2) (fun _ _ => rfl) ml 1 (by simp; omega) (by decide)
                rw [h1, List.getElem_append_right (by omega)]
                simp [mddCells, hll])
              rwa [add_of_block] at this
            obtain ⟨gm2, cm2, e2, hgb, _, csm4, hgm4⟩ := own_some hm4 (by omega)
            cases e2
            have hqm := ho4.ques m (by simp)
            have hmq : m.1 ∈ x.modes := by rw [← HR.out.own.eqm, hms]; simp
            have hqlm := hql m.1 hmq
            have HR4 := Lib.hid hR4
            have HO4 := Lib.hid ho4
            have HQM := Lib.hid hqm
            have HGM := Lib.hid (show Blk w4.drew gm 80 csm4 from hgm4)
            have HLL := Lib.hid hll
            have hgq : gm ∉ (queV m).ownBlock.toList := fun hm => unown_ne hqm hgm4 (by decide) (by simpa using hm)
            have hRq : R ∉ (queV m).ownBlock.toList := fun hm => unown_ne hqm hR4.blk (by decide) (by simpa using hm)
            have hRg : R ≠ gm := Blk.ne_ hR4.blk (show Blk w4.drew gm 80 csm4 from hgm4) (by decide)
            have hbw : b ≤ w4.drew.heap.size := hR4.le
            have HGQ := Lib.hid hgq
            have HRQ := Lib.hid hRq
            have HMS := Lib.hid hms
            have HK5 := Lib.hid HK4.out.drew
            clear hms hll hR4 ho4 hm4 hgb hgm4 hqm hmq f2 f2' hgq hRq
            generalize w4.drew = wd at *
            go_wp2_with (at_builtin; refine wpList_append_one rfl (.tmp 61) (.tmp 65) 78 rfl slice_queue HQM.out rfl rfl (us := [.int .i64 n, .int .i64 (k : Int)]) rfl (by simp [Value.oneCell']) hbw (by omega) (by unfold maxLen; omega) ?_; intro v' w6 hown6 k6 hat6; obtain ⟨A', c', rfl⟩ := own_shape hown6; have hb6 := HGM.out.keep k6 HGQ.out; have hc6 := (k6.cell (p := ⟨gm, ml * 2 + 1, none⟩) HGM.out.lt HGQ.out).trans hqv; have hf6 := hb6.frozen (ml * 2 + 1))
            have ho6 := HO4.out.queue (m := m) (l := l) (gm := gm) (cm := cm) (A' := A') (c' := c') (by rw [hvm, hml]) ⟨n, (k : Int)⟩ k6 hown6 (by
              rcases hat6 with h | h
              · exact .inl h
              · exact .inr (fun g hg => by rw [h] at hg; cases hg; omega))
            rw [HLL.out] at ho6
            have hk7 := keep_set w6 gm (ml * 2 + 1) (.slice A' (m.1.qs.length + 1) c')
            have HF7 : Hid (RdrV (w6.setCell ⟨gm, ml * 2 + 1, none⟩ (.slice A' (m.1.qs.length + 1) c')) b R { x with modes := addQ x.modes ⟨n, (k : Int)⟩ } vt vm ve (l ++ [((⟨m.1.set, m.1.qs ++ [⟨n, (k : Int)⟩]⟩ : Mdd), A', c')]) (.slice (some ⟨bp, op, none⟩) ps.length cc) ps) :=
              ⟨(HR4.out.blk.keep k6 HRQ.out).keep hk7 (by simpa using hRg), ho6, own_keep (own_keep HR4.out.pcs k6 (row_apart HQM.out HR4.out.pcs (by decide))) hk7 (fun g hg hm => by
                simp at hm
                subst hm
                exact unown_ne (own_keep HR4.out.pcs k6 (row_apart HQM.out HR4.out.pcs (by decide))) hb6 (by decide) hg), by have h1 := HR4.out.le; have h2 := k6.size; simp [World.setCell]; omega⟩
            have HC7 : Hid (Chg b R imgUs w (w6.setCell ⟨gm, ml * 2 + 1, none⟩ (.slice A' (m.1.qs.length + 1) c'))) := by
              refine (Chg.of0 HK5.out).trans (HR4.out.chg (F := gm :: (queV m).ownBlock.toList) ((k6.mono (fun y hy _ => List.mem_cons_of_mem _ hy)).setCell (by simp) _) (fun y hy _ => ?_))
              rcases List.mem_cons.1 hy with hy | hy
              · subst hy
                exact .inr (.inr (.inl (by rw [hvm]; simp [Value.ownBlock])))
              · exact .inr (.inr (.inr (.inr ⟨m, by rw [HMS.out]; simp, hy⟩)))
            clear ho6 hk7 hown6 k6 hat6 hb6
            go_wp2
            go_ret
            rw [hTS.out]
            exact ⟨rfl, HC7.out, fun y hy => (by cases hy; exact ⟨_, _, _, _, HF7.out⟩)⟩
          · have hd : decide (bytesOf p2 = polW k) = false := decide_eq_false heq
            rw [hd]
            have HNO2 : Hid (∀ j : Nat, 1 ≤ j → j < k + 1 → bytesOf p2 ≠ polW j) := fun j h1 h2 => by
              rcases Nat.lt_or_ge j k with h | h
              · exact HNO.out j h1 h
              · obtain rfl : j = k := by omega
                exact heq
            clear hd heq
            go_wp2
            go_roundw
            case rel => exact ⟨k + 1, by omega, by omega, by go_num, HNO2.out, HK4.out⟩
            case measure => simp [intOf]; omega
        · obtain rfl : k = 4 := by omega
          have hw := wordP_zero (W := polW) (p := p2) HNO.out
          have hTN : Hid (res = none) := by
            show _ = _
            rw [hT.out, if_pos hw]
          clear hw hkw
          go_wp2
          go_ret
          rw [hTN.out]
          exact ⟨rfl, Chg.of0 HKW.out, fun y hy => (by cases hy)⟩
end Go.Proofs.Ytoepkhkaifgddaa
