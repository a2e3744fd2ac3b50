/- codec's reader: a mode; walked. No condition. -/
import Derived.Test.YtfgjcjpemlgnmaaDoorCrOwn
namespace Go.Proofs.YtfgjcjpemlgnmaaDoor
open Go.RowKit

theorem qsM_len (l : List Int) (st : Nat × Bool) (n : Nat) : (qsM l st n).1.length = n := (qsM_rd l st n).2
theorem qsM_le (l : List Int) (st : Nat × Bool) (h : st.1 ≤ l.length) : ∀ n, (qsM l st n).2.1 ≤ l.length
  | 0 => h
  | n + 1 => nextM_le l _ 3 (nextM_le l _ 16 (qsM_le l st h n))
theorem qsM_succ (l : List Int) (st : Nat × Bool) (n : Nat) : qsM l st (n + 1) = ((qsM l st n).1 ++ [⟨(nextM l (qsM l st n).2 16).1, (nextM l (nextM l (qsM l st n).2 16).2 3).1⟩], (nextM l (nextM l (qsM l st n).2 16).2 3).2) := rfl
theorem rdr_row {W W' : World} {R : Nat} {A : Option Addr} {c : Nat} {l : List Int} {st : Nat × Bool} {b e size n : Nat} {v : Value} {xs : List Value} (hb : RdrAt W R A c l st) (k : Keep v.ownBlock.toList W W') (h : W.ownsRow b e size v n xs) (he : e ≠ 74) : RdrAt W' R A c l st :=
  hb.keep k (fun hm => unown_ne h hb he (by simpa using hm))

set_option maxRecDepth 100000 in
set_option maxHeartbeats 1000000 in
theorem rmode_read (R : Nat) (A : Option Addr) (c : Nat) (l : List Int) (st : Nat × Bool) (w : World) (hb : RdrAt w R A c l st) (hW : Words w R A l) (hp : st.1 ≤ l.length) :
    Calls Tryd.prog 25 #[.pointer (some ⟨R, 0, none⟩)] w fun e w' => ∃ Aq cq,
      e = .returned (.agg #[.int .u32 ((modeM l st).1.set : Int), .slice Aq (modeM l st).1.qs.length cq]) ∧ w'.ownsRow w.heap.size 65 2 (.slice Aq (modeM l st).1.qs.length cq) (modeM l st).1.qs.length ((modeM l st).1.qs.flatMap queCells) ∧
      RdrAt w' R A c l (modeM l st).2 ∧ Keep [R] w w' := by
  obtain ⟨r1, h1⟩ : ∃ r, nextM l st 65535 = r := ⟨_, rfl⟩
  obtain ⟨r2, h2⟩ : ∃ r, nextM l r1.2 4 = r := ⟨_, rfl⟩
  have h1b := nextM_in l hW.2.1 st 65535 (by decide)
  have h2b := nextM_in l hW.2.1 r1.2 4 (by decide)
  have p1 := nextM_le l st 65535 hp
  rw [h1] at h1b p1
  have p2 := nextM_le l r1.2 4 p1
  rw [h2] at h2b p2
  have HM : Hid (modeM l st = (⟨r1.1.toNat, (qsM l r2.2 r2.1.toNat).1⟩, (qsM l r2.2 r2.1.toNat).2)) := by show _ = _; unfold modeM; simp only [h1, h2]
  obtain ⟨v1, st1⟩ := r1
  obtain ⟨v2, st2⟩ := r2
  dsimp only at *
  obtain ⟨s, rfl⟩ : ∃ s : Nat, v1 = (s : Int) := ⟨v1.toNat, by omega⟩
  obtain ⟨n, rfl⟩ : ∃ n : Nat, v2 = (n : Int) := ⟨v2.toNat, by omega⟩
  rw [Int.toNat_natCast, Int.toNat_natCast] at HM
  have hn4 : n ≤ 4 := by omega
  have hs6 : s < 65536 := by omega
  have hwr : IntKind.u32.wrap (s : Int) = (s : Int) := IntWalk.u32_in _ (by omega)
  have hRw := hb.lt
  obtain ⟨W0, hW0⟩ : ∃ W0, w.alloc (.cells #[.int .u32 0, .slice none 0 0] 47) = W0 := ⟨_, rfl⟩
  have K0 : Keep [] w W0 := by rw [← hW0]; exact (Keep.refl _ w).alloc _
  have bres : Blk W0 w.heap.size 47 #[.int .u32 0, .slice none 0 0] := by rw [← hW0]; exact Blk.new _ _ _
  have hz0 : W0.heap.size = w.heap.size + 1 := by rw [← hW0]; simp
  have b0 := hb.keep0 K0
  have HN := fun W st (hr : RdrAt W R A c l st) (k : Keep [R] w W) (hp : st.1 ≤ l.length) most => Lib.hid (next_st R A c l st most W hr (hW.keep k) hp)
  have hn1 := HN W0 st b0 (K0.mono (by simp)) hp 65535
  rw [h1] at hn1
  have HW0 := Lib.hid hW0
  clear hW0 h1
  go_enter Tryd.func25, Tryd.ntmps25
  go_wp2_with (rw [HW0.out])
  refine hn1.out.mono ?_
  rintro e w1 ⟨rfl, hr1, k1⟩
  have bres1 := bres.keep k1 (by simp; omega)
  have K1 : Keep [R] w w1 := (K0.mono (by simp)).trans k1 (fun y hy _ => hy)
  have hz1 := k1.size
  clear b0 bres K0 hn1 HW0
  have hb2 := Blk.new w1 47 #[.int .u32 0, .slice none 0 0]
  go_wp2_with (refine stop_store 47 (.tmp 3) (.tmp 7) rfl ?_)
  constructor
  refine wpList_store_all rfl 47 (.tmp 3) (.tmp 7) rfl rfl rfl (vs := [.int .u32 (s : Int), .slice none 0 0]) agg_mode.2 (Blk.new _ _ _) (by intro u hu; simp at hu; rcases hu with rfl | rfl <;> rfl) rfl ?_
  intro w2 d2 k2
  have ka := (Keep.refl [] w1).alloc (.cells #[.int .u32 0, .slice none 0 0] 47)
  have k12 : Keep [] w1 w2 := ka.trans k2 (fun y hy h => by simp at hy; omega)
  have hr2 := hr1.keep0 k12
  have bres2 := bres1.keep0 k12
  have K2 := K1.then k12
  have hn2 := HN w2 st1 hr2 K2 p1 4
  rw [h2] at hn2
  obtain ⟨g, hg⟩ : ∃ g, g = w1.heap.size := ⟨_, rfl⟩
  rw [← hg] at d2 ⊢
  have hgz : w.heap.size + 1 ≤ g := by omega
  clear hg
  clear hb2 ka k12 k2 hr1 bres1 K1 k1 h2
  go_wp2_with fail
  refine hn2.out.mono ?_
  rintro e w3 ⟨rfl, hr3, k3⟩
  have hgR : R ≠ g := by omega
  have d3 := d2.keep k3 (by simp; omega)
  have bres3 := bres2.keep k3 (by simp; omega)
  have K3 : Keep [R] w w3 := K2.trans k3 (fun y hy _ => hy)
  clear hr2 bres2 K2 k3 d2 hn2
  go_wp2
  have own0 : w3.ownsRow w.heap.size 65 2 (.slice none 0 0) 0 [] := World.ownsRow_nil _ _ _ _
  have HD3 := Lib.hid d3
  have HB3 := Lib.hid bres3
  have HK3 := Lib.hid K3
  have HR3 := Lib.hid hr3
  have HO3 := Lib.hid own0
  clear d3 bres3 K3 hr3 own0 hwr h1b h2b
  go_loopw [10] (fun vi wr => ∃ (k : Nat) (v : Value), k ≤ n ∧ vi = .int .i64 (k : Int) ∧ Blk wr g 47 #[.int .u32 (s : Int), v] ∧ Blk wr w.heap.size 47 #[.int .u32 0, .slice none 0 0] ∧ wr.ownsRow w.heap.size 65 2 v k ((qsM l st2 k).1.flatMap queCells) ∧ RdrAt wr R A c l (qsM l st2 k).2 ∧ Keep [R] w wr) (fun vi _ => n - (intOf vi).toNat)
  case atStart => exact ⟨0, _, Nat.zero_le _, rfl, HD3.out, HB3.out, HO3.out, HR3.out, HK3.out⟩
  case round =>
    obtain ⟨k, v, hk, rfl, hd, hbr, hown, hr, hkw⟩ := hrel
    by_cases hlt : k < n
    · have hpk := qsM_le l st2 p2 k
      have hsc := qsM_succ l st2 k
      obtain ⟨⟨qs, stq⟩, hq⟩ : ∃ p, qsM l st2 k = p := ⟨_, rfl⟩
      rw [hq] at hown hr hpk hsc
      dsimp only at hown hr hpk hsc
      obtain ⟨⟨ra, sta⟩, hra⟩ : ∃ p, nextM l stq 16 = p := ⟨_, rfl⟩
      rw [hra] at hsc
      dsimp only at hsc
      obtain ⟨⟨rb, stb⟩, hrb⟩ : ∃ p, nextM l sta 3 = p := ⟨_, rfl⟩
      rw [hrb] at hsc
      dsimp only at hsc
      have hpa : sta.1 ≤ l.length := by have := nextM_le l stq 16 hpk; rw [hra] at this; exact this
      have HSC := Lib.hid hsc
      have hnR : R ∉ v.ownBlock.toList := fun hm => unown_ne hown hr (by decide) (by simpa using hm)
      have hnG : g ∉ v.ownBlock.toList := fun hm => unown_ne hown hd (by decide) (by simpa using hm)
      have hnB : w.heap.size ∉ v.ownBlock.toList := fun hm => unown_ne hown hbr (by decide) (by simpa using hm)
      have hG : ∀ w', Keep (R :: v.ownBlock.toList) wr w' → w'.cell? ⟨g, 1, none⟩ = some v ∧ True := fun w' k => ⟨(hd.keep k (by simp; exact ⟨fun h => hgR h.symm, by simpa using hnG⟩)).cell 1, trivial⟩
      have HD := Lib.hid hd
      have HBR := Lib.hid hbr
      have HOWN := Lib.hid hown
      have HR := Lib.hid hr
      have HKW := Lib.hid hkw
      have hgl := hd.lt
      have hbs := hbr.lt
      have p0 : (0 : Int) ≤ (k : Int) := by omega
      have p9 : (k : Int) < (n : Int) := by omega
      clear hsc hd hbr hown hr hkw
      go_wp2
      refine ap_begin 10 (Keep (R :: v.ownBlock.toList) wr) rfl (Keep.refl _ _).drew (fun hS hPan => ?_) (fun _ _ d _ _ h => by cases d <;> exact h)
      (refine ap_val (v := ?_) 0 rfl (by kernel_rfl) (by kernel_rfl) (by kernel_rfl) (by kernel_rfl) (by rfl) hPan ?_ hS ?_; rotate_left; (intro w' hSw; go_simp; try with_reducible rfl); simp only [Act.put, List.setIfInBounds_toArray, List.set_cons_zero, List.set_cons_succ])
      (refine ap_val (v := ?_) 1 rfl (by kernel_rfl) (by kernel_rfl) (by kernel_rfl) (by kernel_rfl) (by rfl) hPan ?_ hS ?_; rotate_left; (intro w' hSw; obtain ⟨f1,_f⟩ := hG w' hSw; go_simp; try with_reducible rfl); simp only [Act.put, List.setIfInBounds_toArray, List.set_cons_zero, List.set_cons_succ])
      (refine ap_val (v := ?_) 2 rfl (by kernel_rfl) (by kernel_rfl) (by kernel_rfl) (by kernel_rfl) (by rfl) hPan ?_ hS ?_; rotate_left; (intro w' hSw; go_simp; try with_reducible rfl); simp only [Act.put, List.setIfInBounds_toArray, List.set_cons_zero, List.set_cons_succ])
      (refine ap_val (v := ?_) 4 rfl (by kernel_rfl) (by kernel_rfl) (by kernel_rfl) (by kernel_rfl) (by rfl) hPan ?_ hS ?_; rotate_left; (intro w' hSw; go_simp; try with_reducible rfl); simp only [Act.put, List.setIfInBounds_toArray, List.set_cons_zero, List.set_cons_succ])
      have kd : Keep [] wr wr.drew := (Keep.refl [] wr).drew
      have hr0 := HR.out.keep0 kd
      have hn3 := HN wr.drew stq hr0 (HKW.out.then kd) hpk 16
      rw [hra] at hn3
      refine ap_one 3 (by kernel_rfl) ?_
      refine op_call (f := 23) 3 rfl (by rfl) rfl (by simp only [List.map_toArray, List.map_cons, List.map_nil]; rfl) Tryd.func23 (by kernel_rfl) (by kernel_rfl) hn3.out ?_
      rintro e w4 ⟨rfl, hr4, k4⟩
      have ky : Keep [R] wr w4 := (kd.mono (by simp)).trans k4 (fun y hy _ => hy)
      have hS4 : Keep (R :: v.ownBlock.toList) wr w4 := ky.mono (fun y hy _ => by simp at hy; simp [hy])
      refine ⟨_, rfl, fun _ => hS4, ?_⟩
      (simp only [Act.put, List.setIfInBounds_toArray, List.set_cons_zero, List.set_cons_succ])
      have hn4 := HN w4 sta hr4 (HKW.out.trans ky (fun y hy _ => hy)) hpa 3
      rw [hrb] at hn4
      replace hS := hS4
      clear hS4 k4 hr0 hn3 kd hr4
      refine ap_one 5 (by kernel_rfl) ?_
      refine op_call (f := 23) 5 rfl (by rfl) rfl (by simp only [List.map_toArray, List.map_cons, List.map_nil]; rfl) Tryd.func23 (by kernel_rfl) (by kernel_rfl) hn4.out ?_
      rintro e w5 ⟨rfl, hr5, k5⟩
      have kz : Keep [R] wr w5 := ky.trans k5 (fun y hy _ => hy)
      have hS5 : Keep (R :: v.ownBlock.toList) wr w5 := kz.mono (fun y hy _ => by simp at hy; simp [hy])
      refine ⟨_, rfl, fun _ => hS5, ?_⟩
      (simp only [Act.put, List.setIfInBounds_toArray, List.set_cons_zero, List.set_cons_succ])
      replace hS := hS5
      clear hS5 ky k5 hn4
      (refine ap_val (v := ?_) 6 rfl (by kernel_rfl) (by kernel_rfl) (by kernel_rfl) (by kernel_rfl) (by rfl) hPan ?_ hS ?_; rotate_left; (intro w' hSw; go_simp; try with_reducible rfl); simp only [Act.put, List.setIfInBounds_toArray, List.set_cons_zero, List.set_cons_succ])
      have kA : Keep [] w5 (w5.alloc (.cells #[.int .i64 ra, .int .i64 rb] 65)) := (Keep.refl [] w5).alloc _
      have DA : CellsAt (w5.alloc (.cells #[.int .i64 ra, .int .i64 rb] 65)) w5.heap.size 0 [.int .i64 ra, .int .i64 rb] := (Blk.new w5 65 #[.int .i64 ra, .int .i64 rb]).cellsAt
      refine ap_one 7 (by kernel_rfl) ?_
      refine op_run (v := .slice (some ⟨w5.heap.size, 0, none⟩) 1 1) (w' := w5.alloc (.cells #[.int .i64 ra, .int .i64 rb] 65)) 7 rfl (by rfl) (exec_slice_one slice_queue (cs := [.int .i64 ra, .int .i64 rb]) rfl (by decide) rfl _) ?_
      refine ⟨fun _ => hS.alloc _, ?_⟩
      replace hS := hS.alloc (.cells #[.int .i64 ra, .int .i64 rb] 65)
      (simp only [Act.put, List.setIfInBounds_toArray, List.set_cons_zero, List.set_cons_succ])
      have OA := own_keep0 (own_keep HOWN.out kz (fun g hg hm => hnR (by simp at hm; subst hm; simp [hg]))) kA
      have hrA := hr5.keep0 kA
      have kzA : Keep [R] wr (w5.alloc (.cells #[.int .i64 ra, .int .i64 rb] 65)) := kz.then kA
      have h63 := kA.size
      generalize w5.alloc (.cells #[.int .i64 ra, .int .i64 rb] 65) = w6 at *
      have h64 := kz.size
      refine ap_one 8 (by kernel_rfl) ?_
      refine op_app 8 1 (.tmp 13) (.tmp 19) 45 rfl (by rfl) rfl slice_queue OA rfl rfl DA rfl (by intro u hu; simp at hu; rcases hu with rfl | rfl <;> rfl) (by omega) (by omega) (by unfold maxLen; omega) ?_
      intro v' w7 hown7 k7 hnew
      have hS7 : Keep (R :: v.ownBlock.toList) wr w7 := hS.trans k7 (fun x hx _ => by simp [hx])
      refine ⟨fun _ => hS7, ?_⟩
      (simp only [Act.put, List.setIfInBounds_toArray, List.set_cons_zero, List.set_cons_succ])
      replace hS := hS7
      (refine ap_val (v := ?_) 9 rfl (by kernel_rfl) (by kernel_rfl) (by kernel_rfl) (by kernel_rfl) (by rfl) hPan ?_ hS ?_; rotate_left; (intro w' hSw; go_simp; try with_reducible rfl); simp only [Act.put, List.setIfInBounds_toArray, List.set_cons_zero, List.set_cons_succ])
      have hd7 := HD.out.keep hS7 (by simp; exact ⟨fun h => hgR h.symm, by simpa using hnG⟩)
      have hb7 := HBR.out.keep hS7 (by simp; exact ⟨by omega, by simpa using hnB⟩)
      have hr7 := rdr_row hrA k7 OA (by decide)
      have ks := keep_set w7 g 1 v'
      have HF : Hid (Blk (w7.setCell ⟨g, 1, none⟩ v') g 47 #[.int .u32 (s : Int), v'] ∧ Blk (w7.setCell ⟨g, 1, none⟩ v') w.heap.size 47 #[.int .u32 0, .slice none 0 0] ∧ (w7.setCell ⟨g, 1, none⟩ v').ownsRow w.heap.size 65 2 v' (k + 1) ((qsM l st2 (k + 1)).1.flatMap queCells) ∧ RdrAt (w7.setCell ⟨g, 1, none⟩ v') R A c l (qsM l st2 (k + 1)).2 ∧ Keep [R] w (w7.setCell ⟨g, 1, none⟩ v')) := by
        rw [HSC.out]
        refine ⟨hd7.set_ 1 v', hb7.keep ks (by simp; omega), ?_, hr7.keep ks (by simp; omega), ?_⟩
        · have := own_keep hown7 ks (fun g' hg' hm => by simp at hm; subst hm; exact unown_ne hown7 hd7 (by decide) hg')
          simpa [queCells, queInts, iv] using this
        · refine (HKW.out.trans hS7 (fun y hy hlt => ?_)).trans ks (fun y hy hlt => by simp at hy; omega)
          rcases List.mem_cons.1 hy with hy | hy
          · simp [hy]
          · have := row_base HOWN.out y hy
            omega
      obtain ⟨A', c', rfl⟩ := own_shape hown7
      refine ap_one 10 (by kernel_rfl) ?_
      refine op_store1 10 rfl (by rfl) rfl rfl rfl rfl rfl rfl (hd7.cell 1) (hd7.frozen 1) ?_
      refine ⟨fun h => (by cases h), ap_done (by kernel_rfl) ?_ _⟩
      (simp only [Act.put])
      clear hS hS7 hPan kA DA OA hown7 k7 hd7 hb7 hr7 ks hr5 kz hrA kzA hnew
      go_wp2
      go_roundw
      case rel => exact ⟨k + 1, _, by omega, by go_num, HF.out⟩
      case measure => simp [intOf] <;> omega
    · obtain rfl : k = n := by omega
      obtain ⟨Aq, cq, rfl⟩ := own_shape hown
      have hcs := hd.cellsAt
      have hnB : ∀ g', (Value.slice Aq k cq).ownBlock = some g' → g' ∉ [w.heap.size] := fun g' hg' hm => by simp at hm; subst hm; exact unown_ne hown hbr (by decide) hg'
      have hRB : R ≠ w.heap.size := by omega
      go_wp2_with (first
        | (refine wpList_load_agg rfl 47 (.tmp 3) rfl rfl (cs := [.int .u32 (s : Int), .slice Aq k cq]) agg_mode hcs ?_)
        | (refine stop_store 47 (.tmp 2) (.tmp 23) rfl ?_))
      constructor
      refine wpList_store_all rfl 47 (.tmp 2) (.tmp 23) rfl rfl rfl (vs := [.int .u32 (s : Int), .slice Aq k cq]) agg_mode.2 hbr (by intro u hu; simp at hu; rcases hu with rfl | rfl <;> rfl) rfl ?_
      intro w5 d5 k5
      have ho5 := own_keep hown k5 hnB
      have hr5 := hr.keep k5 (by simpa using hRB)
      have hk5 := hkw.trans k5 (fun y hy hlt => by simp at hy; omega)
      clear hcs hown hr hkw hd hbr
      go_wp2
      refine bodyPost_ret (results_blk rfl _ rfl d5 agg_mode) rfl ?_
      rw [HM.out]
      dsimp only
      rw [qsM_len]
      exact ⟨Aq, cq, rfl, ho5, hr5, hk5⟩
end Go.Proofs.YtfgjcjpemlgnmaaDoor
