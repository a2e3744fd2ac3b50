/- The statement CodecReads, walked for any row of words. Condition: the table of math/bits lies where the program's text lays it. -/
import Derived.Test.YtfgjcjpemlgnmaaDoorCrKn
namespace Go.Proofs.YtfgjcjpemlgnmaaDoor
open Go.RowKit

set_option maxRecDepth 100000 in
set_option maxHeartbeats 4000000 in
theorem codecReads_any (A : Option Addr) (c : Nat) (l : List Int) (w : World) (hT : Tab w) (hW : Reads w 1 A l.length (uw l)) (hlt : ∀ n ∈ l, 0 ≤ n ∧ n < 4294967296) :
    Calls Tryd.prog 4 #[.slice A l.length c] w fun e w' => e = .returned (.bool true) ∧ Keep [] w w' := by
  by_cases hbig : 5000 < l.length
  · have hq : decide ((5000 : Int) < (l.length : Int)) = true := decide_eq_true (by omega)
    have hq2 : (5000 : Int) < (l.length : Int) := by omega
    generalize l.length = n at *
    clear hbig hW
    go_enter Tryd.func4, Tryd.ntmps4
    go_wp2
    go_ret
    exact ⟨rfl, Keep.refl _ _⟩
  · have hq : decide ((5000 : Int) < (l.length : Int)) = false := decide_eq_false (by omega)
    have hq2 : ¬ (5000 : Int) < (l.length : Int) := by omega
    obtain ⟨r, hr⟩ : ∃ r, decR l = r := ⟨_, rfl⟩
    obtain ⟨x, code⟩ := r
    obtain ⟨n, hn⟩ : ∃ n, l.length = n := ⟨_, rfl⟩
    have HD := fun W (k : Keep [] w W) => Lib.hid (dec_knC A c n l W hn (by rw [← hn]; exact hW.keep0 k) hlt (by omega) (hT.keep0 k) x code hr)
    have HR := fun W (k : Keep [] w W) => Lib.hid (rdec_knC A c n l W hn (by rw [← hn]; exact hW.keep0 k) hlt (by omega) x code hr)
    have HAl := fun W (k : Keep [] w W) => Lib.hid (alive11 W (hT.keep0 k))
    rw [hn] at hq hq2 ⊢
    clear hbig hW hr hn hlt hT
    go_enter Tryd.func4, Tryd.ntmps4
    go_wp2_with fail
    refine (HD w (Keep.refl _ _)).out.mono ?_
    rintro e w1 ⟨il, rfl, hx, k1⟩
    have HIL := Lib.hid hx.len
    have HI1 := Lib.hid hx.one
    have HX := Lib.hid hx
    have HK1 := Lib.hid k1
    clear HD hx k1
    go_wp2_with (refine stop_store 26 (.tmp 3) (.tmp 13) rfl ?_)
    constructor
    refine wpList_store_all rfl 26 (.tmp 3) (.tmp 13) rfl rfl rfl (vs := il) (by rw [HIL.out]; exact agg_image.2) (Blk.new _ _ _) HI1.out (by rw [HIL.out]; rfl) ?_
    intro w2 d2 k2
    have k12 : Keep [] w1 w2 := ((Keep.refl [] w1).alloc (.cells #[.int .i64 0, .slice none 0 0, .slice none 0 0, .slice none 0 0] 26)).trans k2 (fun y hy h => by simp at hy; omega)
    have HK2 := Lib.hid (HK1.out.then k12)
    have HX2 := Lib.hid (HX.out.keep0 k12)
    have HD2 := Lib.hid d2
    have HR2 := HR w2 HK2.out
    obtain ⟨g1, hg1⟩ : ∃ g, g = w1.heap.size := ⟨_, rfl⟩
    rw [← hg1] at HD2 ⊢
    clear k12 k2 d2 HR hg1
    go_wp2_with fail
    refine HR2.out.mono ?_
    rintro e w3 ⟨jl, rfl, hy, k3⟩
    have HJL := Lib.hid hy.len
    have HJ1 := Lib.hid hy.one
    have HY := Lib.hid hy
    have HK3 := Lib.hid (HK2.out.then k3)
    have HX3 := Lib.hid (HX2.out.keep0 k3)
    have HD3 := Lib.hid (HD2.out.keep0 k3)
    clear hy k3 HR2 HX HX2 HD2
    go_wp2_with (refine stop_store 26 (.tmp 5) (.tmp 18) rfl ?_)
    constructor
    refine wpList_store_all rfl 26 (.tmp 5) (.tmp 18) rfl rfl rfl (vs := jl) (by rw [HJL.out]; exact agg_image.2) (Blk.new _ _ _) HJ1.out (by rw [HJL.out]; rfl) ?_
    intro w4 d4 k4
    have k34 : Keep [] w3 w4 := ((Keep.refl [] w3).alloc (.cells #[.int .i64 0, .slice none 0 0, .slice none 0 0, .slice none 0 0] 26)).trans k4 (fun y hy h => by simp at hy; omega)
    have HK4 := Lib.hid (HK3.out.then k34)
    have HS := Lib.hid (same_knC (HX3.out.keep0 k34) (HY.out.keep0 k34))
    have q3 := (HD3.out.keep0 k34).cellsAt
    have q4 := d4.cellsAt
    obtain ⟨g2, hg2⟩ : ∃ g, g = w3.heap.size := ⟨_, rfl⟩
    rw [← hg2] at q4 ⊢
    clear k34 k4 d4 hg2 HX3 HY HD3
    have HAL4 := fun W (k : Keep [] w4 W) => HAl W (HK4.out.then k)
    clear HAl
    rw [decide_eq_true (rfl : x = x)] at HS
    go_wp2_with (first
      | (refine wpList_load_agg rfl 26 (.tmp 3) rfl rfl (cs := il) (by rw [HIL.out]; exact agg_image) q3 ?_)
      | (refine wpList_load_agg rfl 26 (.tmp 5) rfl rfl (cs := jl) (by rw [HJL.out]; exact agg_image) q4 ?_))
    refine HS.out.mono ?_
    rintro e w5 ⟨rfl, k5⟩
    have HA5 := HAL4 w5 k5
    have HK5 := Lib.hid (HK4.out.then k5)
    clear HS q3 q4 HAL4 k5
    go_wp2_with fail
    refine HA5.out.mono ?_
    rintro e w6 ⟨rfl, k6⟩
    go_wp2
    go_ret
    exact ⟨rfl, HK5.out.then k6⟩
end Go.Proofs.YtfgjcjpemlgnmaaDoor
