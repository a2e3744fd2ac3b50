/- The document's mode; walked. No condition. -/
import Derived.Test.YtfgjcjpemlgnmaaDoorCrTaskD
namespace Go.Proofs.YtfgjcjpemlgnmaaDoor
open Go.RowKit

theorem qsD_len (l : List Int) (i : Nat) : ∀ n, (qsD l i n).length = n
  | 0 => rfl
  | n + 1 => by
    have e : qsD l i (n + 1) = qsD l i n ++ [⟨atD l (i + 2 * n), atD l (i + 2 * n + 1)⟩] := rfl
    rw [e, List.length_append, qsD_len l i n]; rfl

set_option maxRecDepth 100000 in
set_option maxHeartbeats 1000000 in
theorem mode_any11 (A : Option Addr) (c : Nat) (l : List Int) (i : Nat) (w : World) (h : WordsAt w A l) (hi : i ≤ 1000000) :
    Calls Tryd.prog 29 #[.slice A l.length c, .int .i64 (i : Int)] w fun e w' => ∃ Aq cq,
      e = .returned (.tuple #[.agg #[.int .u32 ((modeD l i).1.set : Int), .slice Aq (modeD l i).1.qs.length cq], .int .i64 ((modeD l i).2 : Int)]) ∧
      w'.ownsRow w.heap.size 65 2 (.slice Aq (modeD l i).1.qs.length cq) (modeD l i).1.qs.length ((modeD l i).1.qs.flatMap queCells) ∧ Keep [] w w' := by
  have hs0 := atD_in h.lt i
  have hn0 := atD_in h.lt (i + 1)
  obtain ⟨s, hs⟩ : ∃ u : Nat, atD l i = (u : Int) := ⟨(atD l i).toNat, by omega⟩
  obtain ⟨n, hn⟩ : ∃ u : Nat, atD l (i + 1) = (u : Int) := ⟨(atD l (i + 1)).toNat, by omega⟩
  have HT : Hid (modeD l i = (⟨s, qsD l (i + 2) (min n 5)⟩, i + 2 + 2 * min n 5)) := by
    show _ = _
    unfold modeD
    rw [hs, hn]
    rfl
  have HN := fun W (j : Nat) (z : Int) (hz : z = (j : Int)) (k : Keep [] w W) => Lib.hid (show Calls Tryd.prog 27 #[.slice A l.length c, .int .i64 z] W fun e w' => e = .returned (.int .i64 (atD l j)) ∧ W = w' from by rw [hz]; exact at_any11 A c l j W (h.keep0 k))
  rw [hs] at hs0
  rw [hn] at hn0
  have hwr : IntKind.u32.wrap (s : Int) = (s : Int) := IntWalk.u32_in _ (by omega)
  obtain ⟨W0, hW0⟩ : ∃ W0, w.alloc (.cells #[.int .u32 0, .slice none 0 0] 47) = W0 := ⟨_, rfl⟩
  have K0 : Keep [] w W0 := by rw [← hW0]; exact (Keep.refl _ w).alloc _
  have s0 : Blk W0 w.heap.size 47 #[.int .u32 0, .slice none 0 0] := by rw [← hW0]; exact Blk.new _ _ _
  have HW0 := Lib.hid hW0
  have n0 := HN W0 i (i : Int) rfl K0
  have hzw := s0.lt
  rw [hs] at n0
  clear hW0 hs
  generalize hll : l.length = ll at *
  go_enter Tryd.func29, Tryd.ntmps29
  go_wp2_with (rw [HW0.out])
  refine n0.out.mono ?_
  rintro e w1 ⟨rfl, rfl⟩
  go_wp2_with (refine stop_store 47 (.tmp 6) (.tmp 13) rfl ?_)
  constructor
  refine wpList_store_all rfl 47 (.tmp 6) (.tmp 13) rfl rfl rfl (vs := [.int .u32 (s : Int), .slice none 0 0]) agg_mode.2 (Blk.new _ _ _) (by intro u hu; simp at hu; rcases hu with rfl | rfl <;> rfl) rfl ?_
  intro w4 d4 k4
  obtain ⟨g, hg⟩ : ∃ g, g = W0.heap.size := ⟨_, rfl⟩
  rw [← hg] at d4 ⊢
  have k34 : Keep [] W0 w4 := ((Keep.refl [] W0).alloc (.cells #[.int .u32 0, .slice none 0 0] 47)).trans k4 (fun y hy h => by simp at hy; omega)
  have hgz : w.heap.size < g := by omega
  have s4 := s0.keep0 k34
  have K4 := K0.then k34
  have n4 := HN w4 (i + 1) ((i : Int) + 1) (by omega) K4
  rw [hn] at n4
  clear hg k34 k4 s0 K0 n0 hzw HW0 hwr hn
  go_wp2_with fail
  refine n4.out.mono ?_
  rintro e w5 ⟨rfl, rfl⟩
  have own0 : w4.ownsRow w.heap.size 65 2 (.slice none 0 0) 0 [] := World.ownsRow_nil _ _ _ _
  have HD4 := Lib.hid d4
  have HS4 := Lib.hid s4
  have HK4 := Lib.hid K4
  have HO4 := Lib.hid own0
  clear n4 d4 s4 K4 own0
  go_wp2
  go_loopw [1, 8] (fun v1 v8 wr => ∃ (k : Nat) (v : Value), k ≤ min n 5 ∧ v8 = .int .i64 (k : Int) ∧ v1 = .int .i64 ((i + 2 + 2 * k : Nat) : Int) ∧ Blk wr g 47 #[.int .u32 (s : Int), v] ∧ Blk wr w.heap.size 47 #[.int .u32 0, .slice none 0 0] ∧ wr.ownsRow w.heap.size 65 2 v k ((qsD l (i + 2) k).flatMap queCells) ∧ Keep [] w wr) (fun _ v8 _ => 5 - (intOf v8).toNat)
  case atStart => exact ⟨0, _, by omega, rfl, (by show Value.int .i64 ((i : Int) + 2) = .int .i64 (((i + 2 : Nat)) : Int); rw [Int.natCast_add]; rfl), HD4.out, HS4.out, HO4.out, HK4.out⟩
  case round =>
    obtain ⟨k, v, hk, rfl, rfl, hd, hs, hown, hkw⟩ := hrel
    by_cases hlt : k < min n 5
    · obtain ⟨p, hp⟩ : ∃ p, i + 2 + 2 * k = p := ⟨_, rfl⟩
      have hsc : qsD l (i + 2) (k + 1) = qsD l (i + 2) k ++ [⟨atD l p, atD l (p + 1)⟩] := by rw [← hp]; rfl
      have hql := qsD_len l (i + 2) k
      have hp2 : Hid (i + 2 + 2 * (k + 1) = p + 2) := by show _ = _; omega
      have hpz : p ≤ 1000100 := by omega
      rw [hp] at *
      clear hp
      generalize qsD l (i + 2) k = qs at *
      obtain ⟨ra, hra⟩ : ∃ a, atD l p = a := ⟨_, rfl⟩
      obtain ⟨rb, hrb⟩ : ∃ a, atD l (p + 1) = a := ⟨_, rfl⟩
      rw [hra, hrb] at hsc
      obtain rfl := hql
      have HSC := Lib.hid hsc
      have hnG : g ∉ v.ownBlock.toList := fun hm => unown_ne hown hd (by decide) (by simpa using hm)
      have hnB : w.heap.size ∉ v.ownBlock.toList := fun hm => unown_ne hown hs (by decide) (by simpa using hm)
      have hG : ∀ w', Keep v.ownBlock.toList wr w' → w'.cell? ⟨g, 1, none⟩ = some v ∧ True := fun w' k => ⟨(hd.keep k hnG).cell 1, trivial⟩
      have HD := Lib.hid hd
      have HS := Lib.hid hs
      have HOWN := Lib.hid hown
      have HKW := Lib.hid hkw
      have p0 : (0 : Int) ≤ ((qs.length : Nat) : Int) := by omega
      have p1 : ((qs.length : Nat) : Int) < (n : Int) := by omega
      have p2 : ((qs.length : Nat) : Int) < 5 := by omega
      clear hsc hd hs hown hkw
      go_wp2
      refine ap_begin 13 (Keep v.ownBlock.toList wr) rfl (Keep.refl _ _).drew (fun hS hPan => ?_) (fun _ _ d _ _ h => by cases d <;> exact h)
      (refine ap_val (v := ?_) 0 rfl (by kernel_rfl) (by kernel_rfl) (by kernel_rfl) (by kernel_rfl) (by rfl) hPan ?_ hS ?_; rotate_left; (intro w' hSw; go_simp; try with_reducible rfl); simp only [Act.put, List.setIfInBounds_toArray, List.set_cons_zero, List.set_cons_succ])
      (refine ap_val (v := ?_) 1 rfl (by kernel_rfl) (by kernel_rfl) (by kernel_rfl) (by kernel_rfl) (by rfl) hPan ?_ hS ?_; rotate_left; (intro w' hSw; obtain ⟨f1,_f⟩ := hG w' hSw; go_simp; try with_reducible rfl); simp only [Act.put, List.setIfInBounds_toArray, List.set_cons_zero, List.set_cons_succ])
      (refine ap_val (v := ?_) 2 rfl (by kernel_rfl) (by kernel_rfl) (by kernel_rfl) (by kernel_rfl) (by rfl) hPan ?_ hS ?_; rotate_left; (intro w' hSw; go_simp; try with_reducible rfl); simp only [Act.put, List.setIfInBounds_toArray, List.set_cons_zero, List.set_cons_succ])
      (refine ap_val (v := ?_) 3 rfl (by kernel_rfl) (by kernel_rfl) (by kernel_rfl) (by kernel_rfl) (by rfl) hPan ?_ hS ?_; rotate_left; (intro w' hSw; go_simp; try with_reducible rfl); simp only [Act.put, List.setIfInBounds_toArray, List.set_cons_zero, List.set_cons_succ])
      (refine ap_val (v := ?_) 5 rfl (by kernel_rfl) (by kernel_rfl) (by kernel_rfl) (by kernel_rfl) (by rfl) hPan ?_ hS ?_; rotate_left; (intro w' hSw; go_simp; try with_reducible rfl); simp only [Act.put, List.setIfInBounds_toArray, List.set_cons_zero, List.set_cons_succ])
      (refine ap_val (v := ?_) 6 rfl (by kernel_rfl) (by kernel_rfl) (by kernel_rfl) (by kernel_rfl) (by rfl) hPan ?_ hS ?_; rotate_left; (intro w' hSw; go_simp; try with_reducible rfl); simp only [Act.put, List.setIfInBounds_toArray, List.set_cons_zero, List.set_cons_succ])
      (refine ap_val (v := ?_) 7 rfl (by kernel_rfl) (by kernel_rfl) (by kernel_rfl) (by kernel_rfl) (by rfl) hPan ?_ hS ?_; rotate_left; (intro w' hSw; go_simp; try with_reducible rfl); simp only [Act.put, List.setIfInBounds_toArray, List.set_cons_zero, List.set_cons_succ])
      have hwp : IntKind.i64.wrap ((p : Int) + 1) = (p : Int) + 1 := IntWalk.i64_in _ (by omega)
      rw [hwp]
      have kd : Keep [] wr wr.drew := (Keep.refl [] wr).drew
      have kd2 := HKW.out.then kd
      have na := HN wr.drew p (p : Int) rfl kd2
      have nb := HN wr.drew (p + 1) ((p : Int) + 1) (by omega) kd2
      rw [hra] at na
      rw [hrb] at nb
      refine ap_one 4 (by kernel_rfl) ?_
      refine op_call (f := 27) 4 rfl (by rfl) rfl (by simp only [List.map_toArray, List.map_cons, List.map_nil]; rfl) Tryd.func27 (by kernel_rfl) (by kernel_rfl) na.out ?_
      rintro e w5 ⟨rfl, rfl⟩
      refine ⟨_, rfl, fun _ => hS, ?_⟩
      (simp only [Act.put, List.setIfInBounds_toArray, List.set_cons_zero, List.set_cons_succ])
      refine ap_one 8 (by kernel_rfl) ?_
      refine op_call (f := 27) 8 rfl (by rfl) rfl (by simp only [List.map_toArray, List.map_cons, List.map_nil]; rfl) Tryd.func27 (by kernel_rfl) (by kernel_rfl) nb.out ?_
      rintro e w5 ⟨rfl, rfl⟩
      refine ⟨_, rfl, fun _ => hS, ?_⟩
      (simp only [Act.put, List.setIfInBounds_toArray, List.set_cons_zero, List.set_cons_succ])
      (refine ap_val (v := ?_) 9 rfl (by kernel_rfl) (by kernel_rfl) (by kernel_rfl) (by kernel_rfl) (by rfl) hPan ?_ hS ?_; rotate_left; (intro w' hSw; go_simp; try with_reducible rfl); simp only [Act.put, List.setIfInBounds_toArray, List.set_cons_zero, List.set_cons_succ])
      have kA : Keep [] wr (wr.drew.alloc (.cells #[.int .i64 ra, .int .i64 rb] 65)) := kd.alloc _
      have DA : CellsAt (wr.drew.alloc (.cells #[.int .i64 ra, .int .i64 rb] 65)) wr.drew.heap.size 0 [.int .i64 ra, .int .i64 rb] := (Blk.new wr.drew 65 #[.int .i64 ra, .int .i64 rb]).cellsAt
      refine ap_one 10 (by kernel_rfl) ?_
      refine op_run (v := .slice (some ⟨wr.drew.heap.size, 0, none⟩) 1 1) (w' := wr.drew.alloc (.cells #[.int .i64 ra, .int .i64 rb] 65)) 10 rfl (by rfl) (exec_slice_one slice_queue (cs := [.int .i64 ra, .int .i64 rb]) rfl (by decide) rfl _) ?_
      refine ⟨fun _ => hS.alloc _, ?_⟩
      replace hS := hS.alloc (.cells #[.int .i64 ra, .int .i64 rb] 65)
      (simp only [Act.put, List.setIfInBounds_toArray, List.set_cons_zero, List.set_cons_succ])
      have OA := own_keep0 HOWN.out kA
      have h63 := kA.size
      have hbl : w.heap.size ≤ wr.heap.size := HKW.out.size
      generalize wr.drew.alloc (.cells #[.int .i64 ra, .int .i64 rb] 65) = w6 at *
      refine ap_one 11 (by kernel_rfl) ?_
      refine op_app 11 1 (.tmp 30) (.tmp 39) 45 rfl (by rfl) rfl slice_queue OA rfl rfl DA rfl (by intro u hu; simp at hu; rcases hu with rfl | rfl <;> rfl) (by omega) (by omega) (by unfold maxLen; omega) ?_
      intro v' w7 hown7 k7 hnew
      have hS7 : Keep v.ownBlock.toList wr w7 := hS.trans k7 (fun x hx _ => hx)
      refine ⟨fun _ => hS7, ?_⟩
      (simp only [Act.put, List.setIfInBounds_toArray, List.set_cons_zero, List.set_cons_succ])
      replace hS := hS7
      (refine ap_val (v := ?_) 12 rfl (by kernel_rfl) (by kernel_rfl) (by kernel_rfl) (by kernel_rfl) (by rfl) hPan ?_ hS ?_; rotate_left; (intro w' hSw; go_simp; try with_reducible rfl); simp only [Act.put, List.setIfInBounds_toArray, List.set_cons_zero, List.set_cons_succ])
      have hd7 := HD.out.keep hS7 hnG
      have hb7 := HS.out.keep hS7 hnB
      have ks := keep_set w7 g 1 v'
      have HF : Hid (Blk (w7.setCell ⟨g, 1, none⟩ v') g 47 #[.int .u32 (s : Int), v'] ∧ Blk (w7.setCell ⟨g, 1, none⟩ v') w.heap.size 47 #[.int .u32 0, .slice none 0 0] ∧ (w7.setCell ⟨g, 1, none⟩ v').ownsRow w.heap.size 65 2 v' (qs.length + 1) ((qsD l (i + 2) (qs.length + 1)).flatMap queCells) ∧ Keep [] w (w7.setCell ⟨g, 1, none⟩ v')) := by
        rw [HSC.out]
        refine ⟨hd7.set_ 1 v', hb7.keep ks (by simp; omega), ?_, ?_⟩
        · have := own_keep hown7 ks (fun g' hg' hm => by simp at hm; subst hm; exact unown_ne hown7 hd7 (by decide) hg')
          simpa [queCells, queInts, iv] using this
        · exact (HKW.out.trans hS7 (fun y hy hlt => by have := row_base HOWN.out y hy; omega)).trans ks (fun y hy hlt => by simp at hy; omega)
      obtain ⟨A', c', rfl⟩ := own_shape hown7
      refine ap_one 13 (by kernel_rfl) ?_
      refine op_store1 13 rfl (by rfl) rfl rfl rfl rfl rfl rfl (hd7.cell 1) (hd7.frozen 1) ?_
      refine ⟨fun h => (by cases h), ap_done (by kernel_rfl) ?_ _⟩
      (simp only [Act.put])
      clear hS hS7 hPan kA DA OA hown7 k7 hd7 hb7 ks hnew hnG hnB hG na nb kd2 kd
      go_wp2
      go_roundw
      case rel => exact ⟨qs.length + 1, _, by omega, by go_num, by rw [hp2.out]; go_num, HF.out⟩
      case measure => simp [intOf] <;> omega
    · have hcase : (n ≤ 5 ∧ k = n) ∨ (5 < n ∧ k = 5) := by omega
      have HT2 : Hid (modeD l i = (⟨s, qsD l (i + 2) k⟩, i + 2 + 2 * k)) := by show _ = _; rw [HT.out, show min n 5 = k by omega]
      obtain ⟨Aq, cq, rfl⟩ := own_shape hown
      have HOWN := Lib.hid hown
      have hnB : ∀ g', (Value.slice Aq k cq).ownBlock = some g' → g' ∉ [w.heap.size] := fun g' hg' hm => by simp at hm; subst hm; exact unown_ne hown hs (by decide) hg'
      have hcs := hd.cellsAt
      clear HT hown hlt hk
      rcases hcase with ⟨h1, rfl⟩ | ⟨h1, rfl⟩
      case' inr => have h2 : (5 : Int) < (n : Int) := by omega
      all_goals
        go_wp2_with (first
          | (refine wpList_load_agg rfl 47 (.tmp 6) rfl rfl (cs := [.int .u32 (s : Int), .slice Aq _ cq]) agg_mode hcs ?_)
          | (refine stop_store 47 (.tmp 4) (.tmp 44) rfl ?_))
        constructor
        refine wpList_store_all rfl 47 (.tmp 4) (.tmp 44) rfl rfl rfl (vs := [.int .u32 (s : Int), .slice Aq _ cq]) agg_mode.2 hs (by intro u hu; simp at hu; rcases hu with rfl | rfl <;> rfl) rfl ?_
        intro w5 d5 k5
        have hk5 := hkw.trans k5 (fun y hy hlt => by simp at hy; omega)
        have ho5 := own_keep HOWN.out k5 hnB
        have HO5 := Lib.hid ho5
        clear hcs ho5
        go_wp2
        refine bodyPost_ret (results_blk_tmpR rfl _ rfl rfl d5 agg_mode) rfl ?_
        rw [HT2.out]
        dsimp only
        rw [qsD_len]
        exact ⟨Aq, cq, rfl, HO5.out, hk5⟩
end Go.Proofs.YtfgjcjpemlgnmaaDoor
