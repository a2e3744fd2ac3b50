/- The document's section of a piece is the program's; walked. Condition: the piece is no longer than a million bytes. -/
import Derived.Test.YtoepkhkaifgddaaStUpTo
namespace Go.Proofs.Ytoepkhkaifgddaa
open Go.RowKit

theorem readP_err (l : List UInt8) : (readP l).2 = 0 ∨ (readP l).2 = 10 := by
  unfold readP
  split
  · exact .inr rfl
  · split
    · split
      · exact .inr rfl
      · exact .inl rfl
    · exact .inr rfl
theorem rread_fix (s : ByteArray) (w : World) (hs : s.size ≤ 1000000) : Calls Try.prog 54 #[.string s] w fun e w' => e = .returned (.tuple #[.int .i64 (readP (bytesOf s)).1, .int .i64 (readP (bytesOf s)).2]) ∧ Keep [] w w' := by
  rw [readP_readR]
  exact rread_any s w (by unfold maxLen; omega)

set_option maxRecDepth 100000 in
set_option maxHeartbeats 2000000 in
theorem rsect_any (s : ByteArray) (w : World) (hs : s.size ≤ 1000000) :
    Calls Try.prog 52 #[.string s] w fun e w' => e = .returned (.tuple #[.agg (sctCells (sectP s).1).toArray, .bool (sectP s).2]) ∧ Keep [] w w' := by
  have hz := splitB_size s 58
  have hz2 := splitB_size (splitB s 58).2.1 45
  have HA := fun W => Lib.hid (rupTo_any s 58 (by decide) hs W)
  have HB := fun W => Lib.hid (rupTo_any (splitB s 58).2.1 45 (by decide) (by omega) W)
  rw [show ((58 : Nat) : Int) = 58 from rfl] at HA
  rw [show ((45 : Nat) : Int) = 45 from rfl] at HB
  have HR1 := fun W => Lib.hid (rread_fix (splitB s 58).1 W (by omega))
  have HR2 := fun W => Lib.hid (rread_fix (splitB (splitB s 58).2.1 45).1 W (by omega))
  have HR3 := fun W => Lib.hid (rread_fix (splitB (splitB s 58).2.1 45).2.1 W (by omega))
  unfold sectP
  generalize splitB s 58 = x at *
  obtain ⟨x1, x2, x3⟩ := x
  dsimp only at *
  generalize splitB x2 45 = y at *
  obtain ⟨y1, y2, y3⟩ := y
  dsimp only at *
  have hr1 := readP_err (bytesOf x1)
  have hr2 := readP_err (bytesOf y1)
  have hr3 := readP_err (bytesOf y2)
  generalize readP (bytesOf x1) = r at *
  generalize readP (bytesOf y1) = f at *
  generalize readP (bytesOf y2) = t at *
  clear hz hz2 hs
  have hb := Blk.new w 85 #[.int .i64 0, .int .i64 0, .int .i64 0]
  have hv : ∀ (a b c : Int), ∀ y, y ∈ sctCells ⟨a, b, c⟩ → y.oneCell' = true := by intro a b c y hy; simp [sctCells, sctInts] at hy; rcases hy with rfl | rfl | rfl <;> rfl
  have hcase : (x3 = true ∧ y3 = true) ∨ (x3 = true ∧ y3 = false) ∨ x3 = false := by cases x3 <;> cases y3 <;> simp
  rcases hcase with ⟨rfl, rfl⟩ | ⟨rfl, rfl⟩ | rfl
  · obtain ⟨ra, rb⟩ := r
    obtain ⟨fa, fb⟩ := f
    obtain ⟨ta, tb⟩ := t
    dsimp only at *
    go_enter Try.func52, Try.ntmps52
    go_wp2_with fail
    refine (HA _).out.mono ?_
    rintro e w1 ⟨rfl, k1⟩
    go_wp2_with fail
    refine (HB _).out.mono ?_
    rintro e w2 ⟨rfl, k2⟩
    go_wp2_with fail
    refine (HR1 _).out.mono ?_
    rintro e w3 ⟨rfl, k3⟩
    go_wp2_with fail
    refine (HR2 _).out.mono ?_
    rintro e w4 ⟨rfl, k4⟩
    go_wp2_with fail
    refine (HR3 _).out.mono ?_
    rintro e w5 ⟨rfl, k5⟩
    have kk := (((k1.then k2).then k3).then k4).then k5
    have hb5 := Lib.hid (hb.keep0 kk)
    have K5 := Lib.hid (((Keep.refl [] w).alloc _).then kk)
    clear HA HB HR1 HR2 HR3 k1 k2 k3 k4 k5 kk hb
    rcases hr1 with rfl | rfl <;> rcases hr2 with rfl | rfl <;> rcases hr3 with rfl | rfl
    all_goals
      go_wp2_with (refine stop_store 85 (.tmp 2) (.tmp 53) rfl ?_)
      constructor
      refine wpList_store_all rfl 85 (.tmp 2) (.tmp 53) rfl rfl rfl (vs := sctCells ⟨ra, fa, ta⟩) agg_section.2 hb5.out (hv _ _ _) rfl ?_
      intro w6 d6 k6
      have K6 : Hid (Keep [] w w6) := K5.out.trans k6 (fun y hy h => by simp at hy h; omega)
      clear k6 hb5 hv
      go_wp2
      refine bodyPost_ret (st_results rfl _ rfl rfl d6 agg_section) rfl ?_
      exact ⟨by simp, K6.out⟩
  · go_enter Try.func52, Try.ntmps52
    go_wp2_with fail
    refine (HA _).out.mono ?_
    rintro e w1 ⟨rfl, k1⟩
    go_wp2_with fail
    refine (HB _).out.mono ?_
    rintro e w2 ⟨rfl, k2⟩
    have kk := k1.then k2
    have hb5 := Lib.hid (hb.keep0 kk)
    have K5 := Lib.hid (((Keep.refl [] w).alloc _).then kk)
    clear HA HB HR1 HR2 HR3 k1 k2 kk hb
    go_wp2_with (refine stop_store 85 (.tmp 2) (.tmp 34) rfl ?_)
    constructor
    refine wpList_store_all rfl 85 (.tmp 2) (.tmp 34) rfl rfl rfl (vs := sctCells ⟨0, 0, 0⟩) agg_section.2 hb5.out (hv _ _ _) rfl ?_
    intro w6 d6 k6
    have K6 : Hid (Keep [] w w6) := K5.out.trans k6 (fun y hy h => by simp at hy h; omega)
    clear k6 hb5
    go_wp2
    refine bodyPost_ret (st_results rfl _ rfl rfl d6 agg_section) rfl ?_
    exact ⟨by simp, K6.out⟩
  · go_enter Try.func52, Try.ntmps52
    go_wp2_with fail
    refine (HA _).out.mono ?_
    rintro e w1 ⟨rfl, k1⟩
    go_wp2_with fail
    refine (HB _).out.mono ?_
    rintro e w2 ⟨rfl, k2⟩
    have kk := k1.then k2
    have hb5 := Lib.hid (hb.keep0 kk)
    have K5 := Lib.hid (((Keep.refl [] w).alloc _).then kk)
    clear HA HB HR1 HR2 HR3 k1 k2 kk hb
    go_wp2_with (refine stop_store 85 (.tmp 2) (.tmp 34) rfl ?_)
    constructor
    refine wpList_store_all rfl 85 (.tmp 2) (.tmp 34) rfl rfl rfl (vs := sctCells ⟨0, 0, 0⟩) agg_section.2 hb5.out (hv _ _ _) rfl ?_
    intro w6 d6 k6
    have K6 : Hid (Keep [] w w6) := K5.out.trans k6 (fun y hy h => by simp at hy h; omega)
    clear k6 hb5
    go_wp2
    refine bodyPost_ret (st_results rfl _ rfl rfl d6 agg_section) rfl ?_
    exact ⟨by simp, K6.out⟩
end Go.Proofs.Ytoepkhkaifgddaa
