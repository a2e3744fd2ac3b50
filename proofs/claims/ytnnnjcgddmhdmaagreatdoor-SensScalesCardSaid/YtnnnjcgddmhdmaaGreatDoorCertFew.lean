/- Layer 21: is an image one of few. No condition. -/
import Derived.Test.YtnnnjcgddmhdmaaGreatDoorSmall
import Derived.Test.YtnnnjcgddmhdmaaGreatDoorImgRC
namespace Go.Proofs.YtnnnjcgddmhdmaaGreatDoor
open Go.RowKit
attribute [local go_sem] Oper.semAt_some

def few21 (x : Img) : Bool := !greatImg x && perB x.tasks
set_option maxRecDepth 100000 in
set_option maxHeartbeats 2000000 in
theorem few21_any (v : ImgV) (x : Img) (w : World) (h : ImgAt w v x) : Calls Tryz.prog 6 #[.agg (imgCells v x).toArray] w fun e w' => e = .returned (.bool (few21 x)) ∧ Keep [] w w' := by
  have hl := h.lt
  unfold maxLen at hl
  obtain ⟨W0, hW0⟩ : ∃ W0, w.alloc (.cells (imgCells v x).toArray 26) = W0 := ⟨_, rfl⟩
  have b0 : Blk W0 w.heap.size 26 (imgCells v x).toArray := by rw [← hW0]; exact img_box w v x
  have K0 : Keep [] w W0 := by rw [← hW0]; exact (Keep.refl [] w).alloc _
  have HC0 : Hid (∀ w', Keep [] W0 w' → CellsAt w' w.heap.size 0 (imgCells v x)) := fun w' hk => (b0.keep0 hk).cellsAt
  have HI1 : Hid (∀ w', Keep [] W0 w' → w'.cell? ⟨w.heap.size, 1, none⟩ = some (.slice v.ta x.tasks.length v.tc)) := fun w' hk => img_c1 (b0.keep0 hk)
  have HIC : Hid ((imgCells v x).length = 4) := show _ = _ from rfl
  have HG := Lib.hid (great_any v x W0 (h.keep0 K0))
  have HF : Hid (few21 x = (!greatImg x && perB x.tasks)) := show _ = _ from rfl
  have HI := Lib.hid h
  have HL := Lib.hid hl
  have HW := Lib.hid hW0
  clear b0 h hW0 hl
  generalize imgCells v x = il at *
  generalize greatImg x = gb at *
  cases gb with
  | true =>
    have HX : Hid (few21 x = false) := by show _ = _; rw [HF.out]; rfl
    go_enter Tryz.func6, Tryz.ntmps6
    go_wp2_with (first
      | rw [HW.out]
      | (refine wpList_load_agg rfl 26 (.tmp 1) rfl rfl (cs := il) (by rw [HIC.out]; exact agg_image) (HC0.out _ (Keep.refl _ _)) ?_))
    refine HG.out.mono ?_
    rintro e w2 ⟨rfl, k2⟩
    go_wp2
    go_ret
    exact ⟨by rw [HX.out]; rfl, K0.then k2⟩
  | false =>
    have HX : Hid (few21 x = perB x.tasks) := by show _ = _; rw [HF.out]; rfl
    go_enter Tryz.func6, Tryz.ntmps6
    go_wp2_with (first
      | rw [HW.out]
      | (refine wpList_load_agg rfl 26 (.tmp 1) rfl rfl (cs := il) (by rw [HIC.out]; exact agg_image) (HC0.out _ (Keep.refl _ _)) ?_))
    refine HG.out.mono ?_
    rintro e w2 ⟨rfl, k2⟩
    have hct := HI1.out w2 k2
    have HK3 := Lib.hid (K0.then k2)
    clear HG HF HC0 HI1 k2 K0
    go_wp2
    go_loopw [3] (fun i wr => ∃ k : Nat, k ≤ x.tasks.length ∧ i = .int .i64 k ∧ Hid (perB x.tasks = perB (x.tasks.drop k)) ∧ wr = w2) (fun i _ => x.tasks.length - (intOf i).toNat)
    case atStart => exact ⟨0, Nat.zero_le _, rfl, rfl, rfl⟩
    case round =>
      obtain ⟨k, hk, rfl, HR, rfl⟩ := hrel
      have hl := HL.out
      by_cases hlt : k < x.tasks.length
      · obtain ⟨b, o, hA, hbw, hcs⟩ := HI.out.task (by omega)
        have hp := ((hcs k hlt).keep0 HK3.out hbw) 0 (.int .i64 x.tasks[k].per) rfl
        have hst := perB_drop x.tasks k hlt
        rw [Nat.add_zero] at hp
        rw [hA] at hct
        have p0 : (0 : Int) ≤ (k : Int) := by omega
        have p1 : (k : Int) < (x.tasks.length : Int) := by omega
        have p2 : decide ((k : Int) < (x.tasks.length : Int)) = true := by simp; omega
        clear hcs
        generalize x.tasks[k].per = z at *
        rcases Int.lt_or_le 400 z with h1 | h1
        · have HX2 : Hid (few21 x = false) := by show _ = _; rw [HX.out, HR.out, hst, decide_eq_false (show ¬ z ≤ 400 by omega)]; rfl
          clear hst HR
          go_wp2
          go_ret
          exact ⟨by rw [HX2.out]; rfl, HK3.out⟩
        · have HX2 : Hid (perB x.tasks = perB (x.tasks.drop (k + 1))) := by show _ = _; rw [HR.out, hst, decide_eq_true h1]; rfl
          clear hst HR
          go_wp2
          go_roundw
          case rel => exact ⟨k + 1, by omega, by go_num, HX2, by trivial⟩
          case measure => simp [intOf] <;> omega
      · obtain rfl : k = x.tasks.length := by omega
        have HX2 : Hid (few21 x = true) := by show _ = _; rw [HX.out, HR.out, List.drop_length]; rfl
        have p2 : decide ((x.tasks.length : Int) < (x.tasks.length : Int)) = false := by simp
        clear HR
        go_wp2
        go_ret
        exact ⟨by rw [HX2.out]; rfl, HK3.out⟩

end Go.Proofs.YtnnnjcgddmhdmaaGreatDoor
