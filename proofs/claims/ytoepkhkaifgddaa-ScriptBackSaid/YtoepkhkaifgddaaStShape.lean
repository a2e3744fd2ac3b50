/- The word and the parts of each kind of step: the program's answer. No condition. -/
import Derived.Test.YtoepkhkaifgddaaStMem
namespace Go.Proofs.Ytoepkhkaifgddaa
open Go.RowKit

/-- The word and the parts of a kind; both empty: there is no such kind. -/
def shp (k : Int) : ByteArray × ByteArray :=
  if k = 1 then ({ data := #[116, 105, 99, 107] }, { data := #[110] })
  else if k = 2 then ({ data := #[111, 102, 102, 101, 114] }, { data := #[97, 110, 115] })
  else if k = 3 then ({ data := #[114, 101, 113, 117, 101, 115, 116] }, { data := #[97] })
  else if k = 4 then ({ data := #[115, 101, 110, 100] }, { data := #[97, 110] })
  else if k = 5 then ({ data := #[116, 97, 107, 101] }, { data := #[97] })
  else if k = 6 then ({ data := #[115, 101, 116] }, { data := #[104] })
  else if k = 7 then ({ data := #[99, 108, 101, 97, 114] }, { data := #[104] })
  else if k = 8 then ({ data := #[116, 101, 115, 116] }, { data := #[97, 104] })
  else if k = 9 then ({ data := #[98, 101, 103, 105, 110] }, { data := #[] })
  else if k = 10 then ({ data := #[112, 117, 116] }, { data := #[119] })
  else if k = 11 then ({ data := #[99, 111, 109, 109, 105, 116] }, { data := #[] })
  else if k = 12 then ({ data := #[99, 111, 110, 102, 105, 114, 109] }, { data := #[] })
  else if k = 13 then ({ data := #[99, 117, 116] }, { data := #[97, 104] })
  else if k = 14 then ({ data := #[111, 102, 102] }, { data := #[] })
  else if k = 15 then ({ data := #[98, 111, 111, 116] }, { data := #[] })
  else ({ data := #[] }, { data := #[] })
/-- There is such a kind. -/
def isKind (k : Int) : Bool := decide (1 ≤ k) && decide (k ≤ 15)
theorem st_results {P : Program} {w : World} {fn : Func} {p q : Tmp} {ty : TypeId} (h : fn.results = #[.cell p ty, .tmp q]) (tmps : Array Value) {g t : Nat} {vs : List Value} {v : Value} (hp : tmps.getD p undef = .pointer (some ⟨g, 0, none⟩)) (hq : tmps.getD q undef = v)
    (hb : Blk w g t vs.toArray) (hA : AggOf P ty vs.length) : (results fn tmps).run P w = .ok (.tuple #[.agg vs.toArray, v]) w := by
  have hp' : tmps[p]?.getD undef = .pointer (some ⟨g, 0, none⟩) := by simpa using hp
  have hq' : tmps[q]?.getD undef = v := by simpa using hq
  have hc : CellsAt w g 0 vs := fun j u hu => by rw [Nat.zero_add, hb.cell]; simpa using hu
  simp [results, h, hp', hq', asAddr, run_loadVar_agg hA hc]

theorem agg_shape : AggOf Try.prog 95 2 := ⟨by kernel_rfl, by kernel_rfl⟩

set_option maxRecDepth 100000 in
set_option maxHeartbeats 2000000 in
theorem shapeOf_any (k : Int) (w : World) :
    Calls Try.prog 48 #[.int .i64 k] w fun e w' => e = .returned (.tuple #[.agg #[.string (shp k).1, .string (shp k).2], .bool (isKind k)]) ∧ Keep [] w w' := by
  by_cases hk : 1 ≤ k ∧ k ≤ 15
  · have : k = 1 ∨ k = 2 ∨ k = 3 ∨ k = 4 ∨ k = 5 ∨ k = 6 ∨ k = 7 ∨ k = 8 ∨ k = 9 ∨ k = 10 ∨ k = 11 ∨ k = 12 ∨ k = 13 ∨ k = 14 ∨ k = 15 := by omega
    clear hk
    rcases this with rfl | rfl | rfl | rfl | rfl | rfl | rfl | rfl | rfl | rfl | rfl | rfl | rfl | rfl | rfl
    all_goals
      go_enter Try.func48, Try.ntmps48
      go_wp2
      refine bodyPost_ret (st_results rfl _ rfl rfl (vs := [_, _]) (Blk.new _ _ _) agg_shape) rfl ?_
      exact ⟨rfl, (Keep.refl _ w).alloc _⟩
  · have hs : shp k = ({ data := #[] }, { data := #[] }) := by unfold shp; (repeat rw [if_neg (by omega)])
    have hi : isKind k = false := by unfold isKind; simp; omega
    rw [hs, hi]
    have q : ∀ i : Int, 1 ≤ i → i ≤ 15 → (k == i) = false := fun i h1 h2 => by simp; omega
    have q1 := q 1 (by decide) (by decide)
    have q2 := q 2 (by decide) (by decide)
    have q3 := q 3 (by decide) (by decide)
    have q4 := q 4 (by decide) (by decide)
    have q5 := q 5 (by decide) (by decide)
    have q6 := q 6 (by decide) (by decide)
    have q7 := q 7 (by decide) (by decide)
    have q8 := q 8 (by decide) (by decide)
    have q9 := q 9 (by decide) (by decide)
    have q10 := q 10 (by decide) (by decide)
    have q11 := q 11 (by decide) (by decide)
    have q12 := q 12 (by decide) (by decide)
    have q13 := q 13 (by decide) (by decide)
    have q14 := q 14 (by decide) (by decide)
    have q15 := q 15 (by decide) (by decide)
    clear q hk
    go_enter Try.func48, Try.ntmps48
    go_wp2
    refine bodyPost_ret (st_results rfl _ rfl rfl (vs := [_, _]) (Blk.new _ _ _) agg_shape) rfl ?_
    exact ⟨rfl, (Keep.refl _ w).alloc _⟩
end Go.Proofs.Ytoepkhkaifgddaa
