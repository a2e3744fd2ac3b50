/- Two tallies that are the same are equal by the model's ==. No condition. -/
import Derived.Test.YtgonnddgljgghaaTally4
namespace Go.Proofs.Ytgonnddgljgghaa
open Go.RowKit
set_option maxHeartbeats 1000000 in
theorem run_eql_tally (a0 a1 a2 a3 a4 a5 a6 a7 a8 a9 a10 : Int) (W : World) :
    (binOp .eql 61 (.agg #[.int .i64 a0, .int .i64 a1, .int .i64 a2, .int .i64 a3, .int .i64 a4, .int .i64 a5, .int .i64 a6, .int .i64 a7, .int .i64 a8, .int .i64 a9, .int .i64 a10])
      (.agg #[.int .i64 a0, .int .i64 a1, .int .i64 a2, .int .i64 a3, .int .i64 a4, .int .i64 a5, .int .i64 a6, .int .i64 a7, .int .i64 a8, .int .i64 a9, .int .i64 a10])).run Try.prog W = .ok (.bool true) W := by
  have hq : ∃ i, Try.prog.info? 3 = some i ∧ i.size = 1 := by
    have h : (Try.prog.info? 3).map (·.size) = some 1 := by kernel_rfl
    exact Option.map_eq_some_iff.1 h
  obtain ⟨i, hi, h1⟩ := hq
  have hagg : ∀ W, (isAgg 3).run Try.prog W = .ok false W := by
    intro W
    unfold isAgg
    rw [Sem.run_bind, run_underlying Try.underlying3 W]
    rfl
  have h : ∀ d : Nat, (Op.equalIn (d + 2) 61 (.agg #[.int .i64 a0, .int .i64 a1, .int .i64 a2, .int .i64 a3, .int .i64 a4, .int .i64 a5, .int .i64 a6, .int .i64 a7, .int .i64 a8, .int .i64 a9, .int .i64 a10])
      (.agg #[.int .i64 a0, .int .i64 a1, .int .i64 a2, .int .i64 a3, .int .i64 a4, .int .i64 a5, .int .i64 a6, .int .i64 a7, .int .i64 a8, .int .i64 a9, .int .i64 a10])).run Try.prog W = .ok true W := by
    intro d
    simp [Op.equalIn, run_underlying Try.underlying61, run_underlying Try.underlying3, sizeOf, typeInfo, hi, h1, part, hagg, Std.Legacy.Range.forIn_eq_forIn_range', List.range', Std.Legacy.Range.size]
  simp only [binOp]
  simp [Op.equal, Op.maxDepth, h 9998]
theorem eql_tal (l : List Ev) (W : World) : (binOp .eql 61 (.agg (intsV (tal l)).toArray) (.agg (intsV (tal l)).toArray)).run Try.prog W = .ok (.bool true) W := by
  have h := tal_len l
  generalize tal l = xs at *
  match xs, h with
  | [a0, a1, a2, a3, a4, a5, a6, a7, a8, a9, a10], _ => exact run_eql_tally a0 a1 a2 a3 a4 a5 a6 a7 a8 a9 a10 W
theorem guard_tal (x y : Operand) (l m : List Ev) (W : World) : (eqGuard .eql 61 x y (.agg (intsV (tal l)).toArray) (.agg (intsV (tal m)).toArray)).run Try.prog W = .ok () W := by
  have h : Try.prog.eqGuardType Try.prog.depth 61 = false := by kernel_rfl
  simp [eqGuard, Sem.run_bind, h]
end Go.Proofs.Ytgonnddgljgghaa
