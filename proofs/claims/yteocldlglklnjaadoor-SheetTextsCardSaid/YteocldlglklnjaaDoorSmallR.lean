/- May an image be (remontoirref10.Right): the document's answer. No condition. -/
import Derived.Test.YteocldlglklnjaaDoorImgRC
import Derived.Test.YteocldlglklnjaaDoorStLaw
import Derived.Test.YteocldlglklnjaaDoorSmall
namespace Go.Proofs.YteocldlglklnjaaDoor
open Go.RowKit
set_option maxRecDepth 100000 in
theorem right_any (v : ImgV) (x : Img) (w : World) (h : ImgAt w v x) :
    Calls Tryd.prog 7 #[.agg (imgCells v x).toArray] w fun e w' => e = .returned (.bool ((chkImg x).2 == 0)) ∧ Keep [] w w' := by
  have HC := fun W hk => Lib.hid (rcheck_any v x W (h.keep0 hk))
  have hb := img_box w v x
  have K0 := (Keep.refl [] w).alloc (.cells (imgCells v x).toArray 26)
  have HIL : Hid ((imgCells v x).length = 4) := show _ = _ from rfl
  have qI := Lib.hid hb.cellsAt
  clear h hb
  generalize chkImg x = r at *
  generalize imgCells v x = il at *
  go_enter Tryd.func7, Tryd.ntmps7
  go_wp2_with (refine wpList_load_agg rfl 26 (.tmp 1) rfl rfl (cs := il) (by rw [HIL.out]; exact agg_image) qI.out ?_)
  refine (HC _ K0).out.mono ?_
  rintro e w5 ⟨rfl, k5⟩
  rw [chkRes]
  go_wp2
  go_ret
  exact ⟨rfl, K0.then k5⟩
end Go.Proofs.YteocldlglklnjaaDoor
