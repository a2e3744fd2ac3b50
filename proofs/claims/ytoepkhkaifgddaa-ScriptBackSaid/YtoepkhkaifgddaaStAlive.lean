/- The chapter's example of the scripts' laws: the answer is yes; walked. No condition. -/
import Derived.Test.YtoepkhkaifgddaaStParseW
namespace Go.Proofs.Ytoepkhkaifgddaa
open Go.RowKit

theorem read_ex : readS { data := #[111, 102, 102, 101, 114, 32, 50, 32, 53, 32, 48, 58, 49, 45, 51] } = (⟨2, 2, 5, [⟨0, 1, 3⟩], []⟩, true) := by decide +kernel
theorem parse_ex : parseS { data := #[98, 111, 111, 116, 32, 35, 32, 111, 110, 10, 10, 116, 105, 99, 107, 32, 51] } = ([⟨15, 0, 0, [], []⟩, ⟨1, 0, 3, [], []⟩], 0, 0) := by decide +kernel

set_option maxRecDepth 100000 in
theorem alive34_any (w : World) : Calls Try.prog 17 #[] w fun e w' => e = .returned (.bool true) ∧ Keep [] w w' := by
  have HR := fun W => Lib.hid (sread_any { data := #[111, 102, 102, 101, 114, 32, 50, 32, 53, 32, 48, 58, 49, 45, 51] } W (by decide))
  have HP := fun W => Lib.hid (sparse_any { data := #[98, 111, 111, 116, 32, 35, 32, 111, 110, 10, 10, 116, 105, 99, 107, 32, 51] } W (by decide))
  rw [read_ex] at HR
  rw [parse_ex] at HP
  go_enter Try.func17, Try.ntmps17
  go_wp2_with (first
    | (refine (HR _).out.mono ?_; rintro e w1 ⟨vs, vw, rfl, hs1, hw1, k1⟩)
    | (refine stop_store 45 (.tmp 1) (.tmp 8) rfl ?_))
  constructor
  obtain ⟨sa, sc, rfl⟩ := own_shape hs1
  obtain ⟨wa, wc, rfl⟩ := own_shape hw1
  refine wpList_store_all rfl 45 (.tmp 1) (.tmp 8) rfl rfl rfl (vs := [.int .i64 2, .int .i64 2, .int .i64 5, .slice sa 1 sc, .slice wa 0 wc]) agg_step.2 (Blk.new _ _ _) (by simp [Value.oneCell']) rfl ?_
  intro w2 d2 k2
  have k12 : Keep [] w1 w2 := ((Keep.refl [] w1).alloc _).trans k2 (fun y hy h => by simp at hy h; omega)
  have HK2 := Lib.hid (k1.then k12)
  have HD2 := Lib.hid d2
  clear k1 k2 k12 d2 hs1 hw1 HR
  generalize w1.heap.size = g1 at *
  go_wp2_with fail
  refine (HP _).out.mono ?_
  rintro e w3 ⟨A, c, ms, hm, rfl, hO, k3⟩
  have hl := congrArg List.length hm
  simp only [List.length_cons, List.length_nil, List.length_map] at hl
  have D3 := HD2.out.keep0 k3
  have c0 := D3.cell 0
  have c1 := D3.cell 1
  have c2 := D3.cell 2
  have c3 := D3.cell 3
  simp at c0 c1 c2 c3
  have hl2 : ms.length = 2 := hl.symm
  rw [hl2]
  clear hl hm hO HP D3
  go_wp2
  go_ret
  exact ⟨by simp, HK2.out.then k3⟩
end Go.Proofs.Ytoepkhkaifgddaa
