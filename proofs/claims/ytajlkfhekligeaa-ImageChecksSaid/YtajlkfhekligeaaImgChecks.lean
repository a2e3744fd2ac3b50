/- ImageChecks: the law's walk. -/
import Derived.Test.YtajlkfhekligeaaImgAl
import Derived.Test.YtajlkfhekligeaaImgRC
namespace Go.Proofs.Ytajlkfhekligeaa
open Go.RowKit

set_option maxRecDepth 100000 in
set_option maxHeartbeats 1000000 in
theorem imageChecks_any (v : ImgV) (x : Img) (w : World) (h : ImgAt w v x) :
    Calls Try.prog 3 #[.agg (imgCells v x).toArray] w fun e w' => e = .returned (.bool true) ∧ Keep [] w w' := by
  have hb := img_box w v x
  have K0 := (Keep.refl [] w).alloc (.cells (imgCells v x).toArray 26)
  have HG := Lib.hid (great_any v x _ (h.keep0 K0))
  have HC := fun W hk => Lib.hid (check_any v x W (h.keep0 hk))
  have HR := fun W hk => Lib.hid (rcheck_any v x W (h.keep0 hk))
  have HIL : Hid ((imgCells v x).length = 4) := show _ = _ from rfl
  have hc : Hid (∀ W, Keep [] (w.alloc (.cells (imgCells v x).toArray 26)) W → CellsAt W w.heap.size 0 (imgCells v x)) := fun W hk => (hb.keep0 hk).cellsAt
  have hc0 := Lib.hid hb.cellsAt
  clear h hb
  have hp : ∃ a b, chkImg x = (a, b) := ⟨_, _, rfl⟩
  obtain ⟨a, b, hab⟩ := hp
  rw [hab] at HC HR
  clear hab
  unfold chkRes at HC HR
  have haa : ((a == a) : Bool) = true := by simp
  have hbb : ((b == b) : Bool) = true := by simp
  generalize imgCells v x = il at *
  cases hg : greatImg x
  · have HGR := Lib.hid hg
    clear hg
    go_enter Try.func3, Try.ntmps3
    go_wp2_with (refine wpList_load_agg rfl 26 (.tmp 1) rfl rfl (cs := il) (by rw [HIL.out]; exact agg_image) hc0.out ?_)
    refine HG.out.mono ?_
    rintro e w1 ⟨rfl, k1⟩
    rw [HGR.out]
    have K1 := Lib.hid (K0.then k1)
    have k1' := Lib.hid k1
    clear k1
    go_wp2_with (refine wpList_load_agg rfl 26 (.tmp 1) rfl rfl (cs := il) (by rw [HIL.out]; exact agg_image) (hc.out _ k1'.out) ?_)
    refine (HC _ K1.out).out.mono ?_
    rintro e w2 ⟨rfl, k2⟩
    have K2 := Lib.hid (K1.out.then k2)
    have k2' := Lib.hid (k1'.out.then k2)
    clear k2
    go_wp2_with (refine wpList_load_agg rfl 26 (.tmp 1) rfl rfl (cs := il) (by rw [HIL.out]; exact agg_image) (hc.out _ k2'.out) ?_)
    refine (HR _ K2.out).out.mono ?_
    rintro e w3 ⟨rfl, k3⟩
    have K3 := Lib.hid (K2.out.then k3)
    clear k3
    go_wp2_with fail
    refine (alive10 _).mono ?_
    rintro e w4 ⟨rfl, k4⟩
    have K4 := Lib.hid (K3.out.then k4)
    clear k4
    go_wp2
    go_ret
    exact ⟨rfl, K4.out⟩
  · have HGR := Lib.hid hg
    clear hg
    go_enter Try.func3, Try.ntmps3
    go_wp2_with (refine wpList_load_agg rfl 26 (.tmp 1) rfl rfl (cs := il) (by rw [HIL.out]; exact agg_image) hc0.out ?_)
    refine HG.out.mono ?_
    rintro e w1 ⟨rfl, k1⟩
    rw [HGR.out]
    have K1 := Lib.hid (K0.then k1)
    clear k1
    go_wp2
    go_ret
    exact ⟨rfl, K1.out⟩
end Go.Proofs.Ytajlkfhekligeaa
