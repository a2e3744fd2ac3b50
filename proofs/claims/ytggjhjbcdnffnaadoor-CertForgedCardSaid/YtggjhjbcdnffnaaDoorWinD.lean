/- How late a task may be along a change (window.Shift's late). Condition: the table of math/bits lies where the program's text lays it; small numbers. -/
import Derived.Test.YtggjhjbcdnffnaaDoorWinC
namespace Go.Proofs.YtggjhjbcdnffnaaDoor
open Go.RowKit

def lateRes (p : Int × Bool) : Value := .tuple #[.int .i64 p.1, .bool p.2]
set_option maxRecDepth 100000 in
set_option maxHeartbeats 2000000 in
theorem late_any (v : ImgV) (x : Img) (c : Cls) (T L : List Int) (task : Int) (w : World) (hTb : Tab w) (h : ImgAt w v x) (hc : c.Ok) (hT : T.length = 8) (hL : OffOk L) (hx : Small x) (hw : InW x.tasks.length c.both) (hw2 : InW x.tasks.length c.to) :
    Calls Tryd.prog 55 #[.agg (shCells v x c T L).toArray, .int .i64 task] w fun e w' => e = .returned (lateRes (lateM x c T L task)) ∧ Keep [] w w' := by
  obtain ⟨W1, hW1⟩ : ∃ W1, w.alloc (.cells (shCells v x c T L).toArray 37) = W1 := ⟨_, rfl⟩
  have b1 : Blk W1 w.heap.size 37 (shCells v x c T L).toArray := by rw [← hW1]; exact Blk.new _ _ _
  have K1 : Keep [] w W1 := by rw [← hW1]; exact (Keep.refl _ w).alloc _
  have HTo := fun w => Lib.hid (cto_any c w hc)
  have HHa := fun w => Lib.hid (has_any c.to task w hc.to)
  have HE := has_bitN c.to task
  rw [HE] at HHa
  have hparts : ∀ w', Keep [] W1 w' → CellsAt w' w.heap.size 0 (shCells v x c T L) ∧ CellsAt w' w.heap.size 0 (imgCells v x) ∧ CellsAt w' w.heap.size 4 (clsCells c) ∧ CellsAt w' w.heap.size 7 (iv T) := fun w' hk' => sh_parts (b1.keep0 hk') hT
  have HWi := fun w' hk' => Lib.hid (win_any v x c T L task w' (hTb.keep0 (K1.then hk')) (h.keep0 (K1.then hk')) hc hT hL hx hw)
  have HBe := fun w' hk' => Lib.hid (beh_any v x c T L task w' (hTb.keep0 (K1.then hk')) (h.keep0 (K1.then hk')) hc hT hL.1 hx hw2)
  have HSL : Hid ((shCells v x c T L).length = 31) := shCells_len v x c hT hL.1
  have HQ0 := Lib.hid (hparts W1 (Keep.refl _ _)).1
  have HLM : Hid (lateM x c T L task = match winM x c T L task with | none => (0, true) | some n => if has10 c.to task = true then (max n ((behM x c T task).getD 0), (behM x c T task).isNone) else (n, false)) := show _ = _ from rfl
  have HW := Lib.hid hW1
  clear hW1 HE b1 h hTb hx hw hw2
  generalize lateM x c T L task = lm at *
  generalize hbe : behM x c T task = be at *
  generalize hsc : (shCells v x c T L) = sc at *
  cases hwn : winM x c T L task with
  | none =>
    rw [hwn] at HLM HWi
    have HR : Hid (lateRes lm = .tuple #[.int .i64 0, .bool true]) := by show _ = _; rw [HLM.out]; rfl
    go_enter Tryd.func55, Tryd.ntmps55
    go_wp2_with (first
      | rw [HW.out]
      | (refine wpList_load_agg rfl 37 (.tmp 2) rfl rfl (cs := sc) (by rw [HSL.out]; exact agg_shift) HQ0.out ?_)
      | (refine (HWi _ (Keep.refl _ _)).out.mono ?_; rintro e w2 ⟨rfl, k2⟩; rw [numRes_none]))
    go_ret2
    exact ⟨by rw [HR.out]; rfl, K1.then k2⟩
  | some n =>
    rw [hwn] at HLM HWi
    cases hh : has10 c.to task with
    | false =>
      rw [hh] at HHa HLM
      have HR : Hid (lateRes lm = .tuple #[.int .i64 n, .bool false]) := by show _ = _; rw [HLM.out]; rfl
      go_enter Tryd.func55, Tryd.ntmps55
      go_wp2_with (first
        | rw [HW.out]
        | (refine wpList_load_agg rfl 37 (.tmp 2) rfl rfl (cs := sc) (by rw [HSL.out]; exact agg_shift) HQ0.out ?_)
        | (refine (HWi _ (Keep.refl _ _)).out.mono ?_; rintro e w2 ⟨rfl, k2⟩; rw [numRes_some]; have HC2 := Lib.hid (hparts w2 k2).2.2.1)
        | (refine wpList_load_agg rfl 33 (.tmp 17) rfl rfl (cs := clsCells c) agg_cls HC2.out ?_)
        | (refine (HTo _).out.mono ?_; rintro e w3 ⟨rfl, k3⟩)
        | (refine (HHa _).out.mono ?_; rintro e w4 ⟨rfl, rfl⟩))
      go_ret2
      exact ⟨by rw [HR.out]; rfl, (K1.then k2).then k3⟩
    | true =>
      rw [hh] at HHa HLM
      obtain ⟨bg, bs, hbe2, hbr⟩ : ∃ bg bs, numRes be = .tuple #[.int .i64 bg, .bool bs] ∧ (be.getD 0 = bg ∧ be.isNone = !bs) := ⟨be.getD 0, be.isSome, numRes_eq _, rfl, by cases be <;> rfl⟩
      have HR : Hid (lateRes lm = .tuple #[.int .i64 (max n bg), .bool (!bs)]) := by show _ = _; rw [HLM.out]; show lateRes (max n (be.getD 0), be.isNone) = _; rw [hbr.1, hbr.2]; rfl
      rw [hbe2] at HBe
      clear hbe2 hbr HLM hbe
      go_enter Tryd.func55, Tryd.ntmps55
      go_wp2_with (first
        | rw [HW.out]
        | (refine wpList_load_agg rfl 37 (.tmp 2) rfl rfl (cs := sc) (by rw [HSL.out]; exact agg_shift) HQ0.out ?_)
        | (refine (HWi _ (Keep.refl _ _)).out.mono ?_; rintro e w2 ⟨rfl, k2⟩; rw [numRes_some]; have HC2 := Lib.hid (hparts w2 k2).2.2.1)
        | (refine wpList_load_agg rfl 33 (.tmp 17) rfl rfl (cs := clsCells c) agg_cls HC2.out ?_)
        | (refine (HTo _).out.mono ?_; rintro e w3 ⟨rfl, k3⟩; have HC3 := Lib.hid (hparts w3 (k2.then k3)).1; clear HTo)
        | (refine (HHa _).out.mono ?_; rintro e w4 ⟨rfl, rfl⟩; clear HQ0)
        | refine stop_at 25 rfl ?_)
      constructor
      refine wpList_load_agg rfl 37 (.tmp 2) rfl rfl (cs := sc) (by rw [HSL.out]; exact agg_shift) HC3.out ?_
      clear HWi
      go_wp2_with fail
      refine (HBe _ (k2.then k3)).out.mono ?_
      rintro e w5 ⟨rfl, k5⟩
      rcases Int.lt_or_le n bg with hzz | hzz
      all_goals
        go_wp2_with fail
        go_ret2
      · exact ⟨by rw [HR.out, show max n bg = bg by omega]; rfl, ((K1.then k2).then k3).then k5⟩
      · exact ⟨by rw [HR.out, show max n bg = n by omega]; rfl, ((K1.then k2).then k3).then k5⟩
end Go.Proofs.YtggjhjbcdnffnaaDoor
