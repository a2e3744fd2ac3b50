/- SteadyBusy: the law's walk. Condition: the table of math/bits lies where the program's text lays it. -/
import Derived.Test.YtajlkfhekligeaaDoorLaw18A
namespace Go.Proofs.YtajlkfhekligeaaDoor
open Go.RowKit

set_option maxRecDepth 100000 in
set_option maxHeartbeats 1000000 in
theorem steadyBusy_any (v : ImgV) (x : Img) (s : Nat) (w : World) (hT : Tab w) (h : ImgAt w v x) (hs : s < 4294967296) :
    Calls Tryd.prog 4 #[.agg (imgCells v x).toArray, .int .u32 (s : Int)] w fun e w' => e = .returned (.bool true) ∧ Keep [] w w' := by
  have hb := img_box w v x
  have K0 := (Keep.refl [] w).alloc (.cells (imgCells v x).toArray 26)
  have HG := Lib.hid (great_any v x _ (h.keep0 K0))
  have HR := fun W hk => Lib.hid (right_any v x W (h.keep0 hk))
  have HIL : Hid ((imgCells v x).length = 4) := show _ = _ from rfl
  have hc : Hid (∀ W, Keep [] (w.alloc (.cells (imgCells v x).toArray 26)) W → CellsAt W w.heap.size 0 (imgCells v x)) := fun W hk => (hb.keep0 hk).cellsAt
  have hc0 := Lib.hid hb.cellsAt
  have HAl := fun W hk => Lib.hid (alive18 W (hT.keep0 hk))
  cases hg : greatImg x with
  | true =>
    rw [hg] at HG
    clear h hb HR HAl
    generalize imgCells v x = il at *
    go_enter Tryd.func4, Tryd.ntmps4
    go_wp2_with (refine wpList_load_agg rfl 26 (.tmp 2) rfl rfl (cs := il) (by rw [HIL.out]; exact agg_image) hc0.out ?_)
    refine HG.out.mono ?_
    rintro e w1 ⟨rfl, k1⟩
    go_wp2
    go_ret
    exact ⟨rfl, K0.then k1⟩
  | false =>
    rw [hg] at HG
    cases hr : ((chkImg x).2 == 0) with
    | false =>
      rw [hr] at HR
      clear h hb HAl
      generalize imgCells v x = il at *
      go_enter Tryd.func4, Tryd.ntmps4
      go_wp2_with (refine wpList_load_agg rfl 26 (.tmp 2) rfl rfl (cs := il) (by rw [HIL.out]; exact agg_image) hc0.out ?_)
      refine HG.out.mono ?_
      rintro e w1 ⟨rfl, k1⟩
      have K1 := Lib.hid (K0.then k1)
      have k1' := Lib.hid k1
      clear k1
      go_wp2_with (refine wpList_agg_gd rfl 26 (.tmp 2) rfl rfl (cs := il) (by rw [HIL.out]; exact agg_image) (hc.out _ k1'.out) ?_)
      refine (HR _ K1.out).out.mono ?_
      rintro e w2 ⟨rfl, k2⟩
      go_wp2
      go_ret
      exact ⟨rfl, K1.out.then k2⟩
    | true =>
      have h0 : (chkImg x).2 = 0 := by simpa using hr
      have hsm := small_of h0
      have hwl := withinK_lt s x.tasks.length (by have := hsm.n; omega)
      have HWi := fun W => Lib.hid (within_any v x s W hs hsm.n)
      have HBu := fun W hk => Lib.hid (busy_any v x (withinK s x.tasks.length) W (hT.keep0 hk) (h.keep0 hk) hwl)
      have HBr := fun W hk => Lib.hid (rbusy_any v x (withinK s x.tasks.length) W (h.keep0 hk) hwl hsm.n)
      rw [busy_same hsm] at HBu
      rw [hr] at HR
      clear h hb hsm h0 hT
      generalize withinK s x.tasks.length = q at *
      generalize rbusyM x q = r at *
      generalize imgCells v x = il at *
      have hr0 : (r.getD 0 == r.getD 0) = true := by simp
      have hr1 : (r.isSome == r.isSome) = true := by simp
      go_enter Tryd.func4, Tryd.ntmps4
      go_wp2_with (refine wpList_load_agg rfl 26 (.tmp 2) rfl rfl (cs := il) (by rw [HIL.out]; exact agg_image) hc0.out ?_)
      refine HG.out.mono ?_
      rintro e w1 ⟨rfl, k1⟩
      have K1 := Lib.hid (K0.then k1)
      have k1' := Lib.hid k1
      clear k1
      go_wp2_with (refine wpList_agg_gd rfl 26 (.tmp 2) rfl rfl (cs := il) (by rw [HIL.out]; exact agg_image) (hc.out _ k1'.out) ?_)
      refine (HR _ K1.out).out.mono ?_
      rintro e w2 ⟨rfl, k2⟩
      have K2 := Lib.hid (K1.out.then k2)
      have k2' := Lib.hid (k1'.out.then k2)
      clear k2
      go_wp2_with (refine wpList_load_agg rfl 26 (.tmp 2) rfl rfl (cs := il) (by rw [HIL.out]; exact agg_image) (hc.out _ k2'.out) ?_)
      refine (HWi _).out.mono ?_
      rintro e w3 ⟨rfl, k3⟩
      have K3 := Lib.hid (K2.out.then k3)
      have k3' := Lib.hid (k2'.out.then k3)
      clear k3
      go_wp2_with (refine wpList_load_agg rfl 26 (.tmp 2) rfl rfl (cs := il) (by rw [HIL.out]; exact agg_image) (hc.out _ k3'.out) ?_)
      refine (HBu _ K3.out).out.mono ?_
      rintro e w4 ⟨rfl, k4⟩
      rw [numRes_eq]
      have K4 := Lib.hid (K3.out.then k4)
      have k4' := Lib.hid (k3'.out.then k4)
      clear k4
      go_wp2_with (refine wpList_load_agg rfl 26 (.tmp 2) rfl rfl (cs := il) (by rw [HIL.out]; exact agg_image) (hc.out _ k4'.out) ?_)
      refine (HBr _ K4.out).out.mono ?_
      rintro e w5 ⟨rfl, k5⟩
      rw [numRes_eq]
      have K5 := Lib.hid (K4.out.then k5)
      clear k5
      generalize r.getD 0 = r0 at *
      generalize r.isSome = r1 at *
      go_wp2_with fail
      refine (HAl _ K5.out).out.mono ?_
      rintro e w6 ⟨rfl, k6⟩
      have K6 := Lib.hid (K5.out.then k6)
      clear k6
      go_wp2
      go_ret
      exact ⟨rfl, K6.out⟩
end Go.Proofs.YtajlkfhekligeaaDoor
