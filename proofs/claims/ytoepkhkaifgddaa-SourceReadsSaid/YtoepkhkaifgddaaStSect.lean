/- The section of a piece: the program's answer. No condition but the piece's length. -/
import Derived.Test.YtoepkhkaifgddaaStShape
import Derived.Test.YtoepkhkaifgddaaDigRead
namespace Go.Proofs.Ytoepkhkaifgddaa
open Go.RowKit

/-- The section of a piece, and whether it is one. -/
def sectP (s : ByteArray) : Sct × Bool :=
  let x := splitB s 58
  let y := splitB x.2.1 45
  if x.2.2 && y.2.2 then
    let r := readP (bytesOf x.1)
    let f := readP (bytesOf y.1)
    let t := readP (bytesOf y.2.1)
    (⟨r.1, f.1, t.1⟩, (r.2 == 0) && (f.2 == 0) && (t.2 == 0))
  else (⟨0, 0, 0⟩, false)
theorem splitB_size (s : ByteArray) (c : Int) : (splitB s c).1.size ≤ s.size ∧ (splitB s c).2.1.size ≤ s.size := by
  unfold splitB
  split
  · simp [ByteArray.size_extract]; omega
  · exact ⟨Nat.zero_le _, Nat.zero_le _⟩
set_option maxRecDepth 100000 in
set_option maxHeartbeats 1000000 in
theorem sect_any (s : ByteArray) (w : World) (hs : s.size ≤ 1000000) :
    Calls Try.prog 84 #[.string s] w fun e w' => e = .returned (.tuple #[.agg (sctCells (sectP s).1).toArray, .bool (sectP s).2]) ∧ Keep [] w w' := by
  have hz := splitB_size s 58
  have hz2 := splitB_size (splitB s 58).2.1 45
  have HA := fun W => Lib.hid (split_any s 58 W hs)
  have HB := fun W => Lib.hid (split_any (splitB s 58).2.1 45 W (by omega))
  have HR1 := fun W => Lib.hid (read_any (splitB s 58).1 W (by unfold maxLen; omega))
  have HR2 := fun W => Lib.hid (read_any (splitB (splitB s 58).2.1 45).1 W (by unfold maxLen; omega))
  have HR3 := fun W => Lib.hid (read_any (splitB (splitB s 58).2.1 45).2.1 W (by unfold maxLen; omega))
  unfold sectP
  generalize splitB s 58 = x at *
  obtain ⟨x1, x2, x3⟩ := x
  dsimp only at *
  generalize splitB x2 45 = y at *
  obtain ⟨y1, y2, y3⟩ := y
  dsimp only at *
  generalize readP (bytesOf x1) = r at *
  generalize readP (bytesOf y1) = f at *
  generalize readP (bytesOf y2) = t at *
  clear hz hz2 hs
  have hcase : (x3 = true ∧ y3 = true) ∨ (x3 = true ∧ y3 = false) ∨ x3 = false := by cases x3 <;> cases y3 <;> simp
  rcases hcase with ⟨rfl, rfl⟩ | ⟨rfl, rfl⟩ | rfl
  · have hb := Blk.new w 85 #[.int .i64 0, .int .i64 0, .int .i64 0]
    have hv : ∀ (a b c : Int), ∀ y, y ∈ sctCells ⟨a, b, c⟩ → y.oneCell' = true := by intro a b c y hy; simp [sctCells, sctInts] at hy; rcases hy with rfl | rfl | rfl <;> rfl
    have hr : ∀ (a : Int), (a == 0) = true ∨ (a == 0) = false := fun a => by cases (a == 0) <;> simp
    go_enter Try.func84, Try.ntmps84
    go_wp2_with fail
    refine (HA _).out.mono ?_
    rintro e w1 ⟨rfl, k1⟩
    have hb1 := hb.keep0 k1
    go_wp2_with fail
    refine (HB _).out.mono ?_
    rintro e w2 ⟨rfl, k2⟩
    have hb2 := Lib.hid (Blk.keep0 hb1 k2)
    have K2 := Lib.hid ((((Keep.refl [] w).alloc _).then k1).then k2)
    clear k1 k2 hb hb1
    go_wp2_with fail
    refine (HR1 _).out.mono ?_
    rintro e w3 ⟨rfl, rfl⟩
    go_wp2_with fail
    refine (HR2 _).out.mono ?_
    rintro e w3 ⟨rfl, rfl⟩
    go_wp2_with fail
    refine (HR3 _).out.mono ?_
    rintro e w3 ⟨rfl, rfl⟩
    clear HA HB HR1 HR2 HR3
    rcases hr r.2 with g1 | g1 <;> rcases hr f.2 with g2 | g2 <;> rcases hr t.2 with g3 | g3
    all_goals
      clear hr
      go_wp2_with (refine stop_store 85 (.tmp 2) (.tmp 53) rfl ?_)
      constructor
      refine wpList_store_all rfl 85 (.tmp 2) (.tmp 53) rfl rfl rfl (vs := sctCells ⟨r.1, f.1, t.1⟩) agg_section.2 hb2.out (hv _ _ _) rfl ?_
      intro w4 d4 k4
      have K4 : Hid (Keep [] w w4) := K2.out.trans k4 (fun y hy h => by simp at hy h; omega)
      clear k4 hb2 hv
      go_wp2
      refine bodyPost_ret (st_results rfl _ rfl rfl d4 agg_section) rfl ?_
      exact ⟨by simp [g1, g2, g3], K4.out⟩
  · have hb := Blk.new w 85 #[.int .i64 0, .int .i64 0, .int .i64 0]
    go_enter Try.func84, Try.ntmps84
    go_wp2_with fail
    refine (HA _).out.mono ?_
    rintro e w1 ⟨rfl, k1⟩
    have hb1 := hb.keep0 k1
    go_wp2_with fail
    refine (HB _).out.mono ?_
    rintro e w2 ⟨rfl, k2⟩
    have hb2 := Lib.hid (Blk.keep0 hb1 k2)
    have K2 := Lib.hid ((((Keep.refl [] w).alloc _).then k1).then k2)
    clear k1 k2 hb hb1 HA HB HR1 HR2 HR3
    go_wp2_with (refine stop_store 85 (.tmp 2) (.tmp 34) rfl ?_)
    constructor
    refine wpList_store_all rfl 85 (.tmp 2) (.tmp 34) rfl rfl rfl (vs := sctCells ⟨0, 0, 0⟩) agg_section.2 hb2.out (by intro y hy; simp [sctCells, sctInts] at hy; rcases hy with rfl | rfl | rfl <;> rfl) rfl ?_
    intro w4 d4 k4
    have K4 : Hid (Keep [] w w4) := K2.out.trans k4 (fun y hy h => by simp at hy h; omega)
    clear k4 hb2
    go_wp2
    refine bodyPost_ret (st_results rfl _ rfl rfl d4 agg_section) rfl ?_
    exact ⟨by simp, K4.out⟩
  · have hb := Blk.new w 85 #[.int .i64 0, .int .i64 0, .int .i64 0]
    go_enter Try.func84, Try.ntmps84
    go_wp2_with fail
    refine (HA _).out.mono ?_
    rintro e w1 ⟨rfl, k1⟩
    have hb1 := hb.keep0 k1
    go_wp2_with fail
    refine (HB _).out.mono ?_
    rintro e w2 ⟨rfl, k2⟩
    have hb2 := Lib.hid (Blk.keep0 hb1 k2)
    have K2 := Lib.hid ((((Keep.refl [] w).alloc _).then k1).then k2)
    clear k1 k2 hb hb1 HA HB HR1 HR2 HR3
    go_wp2_with (refine stop_store 85 (.tmp 2) (.tmp 34) rfl ?_)
    constructor
    refine wpList_store_all rfl 85 (.tmp 2) (.tmp 34) rfl rfl rfl (vs := sctCells ⟨0, 0, 0⟩) agg_section.2 hb2.out (by intro y hy; simp [sctCells, sctInts] at hy; rcases hy with rfl | rfl | rfl <;> rfl) rfl ?_
    intro w4 d4 k4
    have K4 : Hid (Keep [] w w4) := K2.out.trans k4 (fun y hy h => by simp at hy h; omega)
    clear k4 hb2
    go_wp2
    refine bodyPost_ret (st_results rfl _ rfl rfl d4 agg_section) rfl ?_
    exact ⟨by simp, K4.out⟩
end Go.Proofs.Ytoepkhkaifgddaa
