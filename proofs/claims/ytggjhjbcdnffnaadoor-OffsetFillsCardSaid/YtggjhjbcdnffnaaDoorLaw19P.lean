/- Layer 19: the chapter's example, and that it is alive. Condition: the table of math/bits lies where the program's text lays it. Layer 19: what an edge of an image that may be is like; offsets that are no less. No program in sight. -/
import Derived.Test.YtggjhjbcdnffnaaDoorLaw19A
namespace Go.Proofs.YtggjhjbcdnffnaaDoor
open Go.RowKit

theorem pI_int19 (d : Nat) : PartI Tryd.prog 3 1 (d + 1) := partI_int Tryd.underlying3
theorem eqI_span (d : Nat) : EqI Tryd.prog 49 2 (d + 2) :=
  eqI_struct Tryd.underlying49 (by kernel_rfl) ⟨by decide, rfl, 1, pI_int19 _, by decide, rfl, 1, pI_int19 _, rfl⟩
theorem span_eql (a b c d : Int) (w : World) : (binOp .eql 49 (.agg #[.int .i64 a, .int .i64 b]) (.agg #[.int .i64 c, .int .i64 d])).run Tryd.prog w = .ok (.bool (decide ([a, b] = [c, d]))) w :=
  run_eql_I (eqI_span 9998) [a, b] [c, d] rfl rfl w
theorem span_guard (x y : Operand) (u v : Array Value) (w : World) : (eqGuard .eql 49 x y (.agg u) (.agg v)).run Tryd.prog w = .ok () w := guard_eql_I (by kernel_rfl) x y u v w

def z8 : List Int := [0, 0, 0, 0, 0, 0, 0, 0]
def z16 : List Int := [0, 0, 0, 0, 0, 0, 0, 0, 0, 0, 0, 0, 0, 0, 0, 0]
/-- The chapter's example. -/
def exW : Img := ⟨0, [⟨10, 10, 2, z8⟩, ⟨20, 20, 5, z8⟩], [⟨2, []⟩, ⟨3, []⟩], [⟨0, 1, 3, z16, [0, 0, 0, 0]⟩]⟩
def exWV (B : Nat) : ImgV := ⟨some ⟨B + 1, 0, none⟩, 2, some ⟨B + 2, 0, none⟩, 2, some ⟨B + 3, 0, none⟩, 1, [(none, 0), (none, 0)]⟩
theorem exW_small : Small exW := ⟨by simp [exW], by simp [exW, z8], by simp [exW], by simp [exW], by simp [exW]⟩
theorem exW_at {w : World} {B : Nat} (h1 : Blk w (B + 1) 81 (exW.tasks.flatMap tskCells).toArray) (h2 : Blk w (B + 2) 113 #[.int .u32 2, .slice none 0 0, .int .u32 3, .slice none 0 0]) (h3 : Blk w (B + 3) 67 (exW.edges.flatMap edgCells).toArray) : ImgAt w (exWV B) exW :=
  ⟨⟨by simp [exW, z8], by simp [exW, z16], by simp [exW], by simp [exW]⟩, rfl, ⟨rfl, fun _ => ⟨B + 1, 0, rfl, h1.lt, fun j u hu => by rw [Nat.zero_add]; exact h1.at_ hu⟩⟩,
    ⟨rfl, fun _ => ⟨B + 2, 0, rfl, h2.lt, fun j u hu => by rw [Nat.zero_add]; exact Blk.at_ (l := [.int .u32 2, .slice none 0 0, .int .u32 3, .slice none 0 0]) h2 hu⟩⟩,
    ⟨rfl, fun _ => ⟨B + 3, 0, rfl, h3.lt, fun j u hu => by rw [Nat.zero_add]; exact h3.at_ hu⟩⟩, fun i h h' => by
    have : i = 0 ∨ i = 1 := by simp [exW] at h; omega
    rcases this with rfl | rfl
    · exact Reads.none_
    · exact Reads.none_, by simp [exW, maxLen], by simp [exW, maxLen], by simp [exW, maxLen], by simp [exW, maxLen]⟩
theorem exW_cls : clsE exW 0 = ⟨0, 1, 2⟩ := by kernel_rfl
theorem exW_both : InW exW.tasks.length (clsE exW 0).both := fun i hi => by
  rw [exW_cls]
  exact Nat.testBit_lt_two_pow (Nat.lt_of_lt_of_le (show 3 < 2 ^ 2 by decide) (Nat.pow_le_pow_right (by decide) hi))
theorem exW_to : InW exW.tasks.length (clsE exW 0).to := fun i hi => by
  rw [exW_cls]
  exact Nat.testBit_lt_two_pow (Nat.lt_of_lt_of_le (show 3 < 2 ^ 2 by decide) (Nat.pow_le_pow_right (by decide) hi))
theorem z16_ok : OffOk z16 := ⟨rfl, by simp [z16]⟩
theorem exW_win0 : winM exW (clsE exW 0) (tabE exW 0) z16 0 = some 2 := by kernel_rfl
theorem exW_win1 : winM exW (clsE exW 0) (tabE exW 0) z16 1 = some 7 := by kernel_rfl
theorem exW_span : spanM exW (clsE exW 0) (tabE exW 0) z16 = some (7, 7) := by kernel_rfl

set_option maxRecDepth 100000 in
set_option maxHeartbeats 1000000 in
theorem exw_any (w : World) : Calls Tryd.prog 39 #[] w fun e w' => ∃ v, e = .returned (.agg (imgCells v exW).toArray) ∧ ImgAt w' v exW ∧ Keep [] w w' := by
  go_enter Tryd.func39, Tryd.ntmps39
  go_wp2_with (refine stop_store 26 (.tmp 0) (.tmp 9) rfl ?_)
  constructor
  refine wpList_store_all rfl 26 (.tmp 0) (.tmp 9) rfl rfl rfl (vs := imgCells (exWV w.heap.size) exW) (by kernel_rfl) ((((Blk.new _ _ _).alloc _).alloc _).alloc _) (by intro u hu; simp only [imgCells, List.mem_cons, List.not_mem_nil, or_false] at hu; rcases hu with rfl | rfl | rfl | rfl <;> rfl) ?_ ?_
  · rfl
  intro w5 d5 k5
  have q1 := Blk.keep (((Blk.new1 _ _ _ _).alloc _).alloc _) k5 (by simp)
  have q2 := Blk.keep ((Blk.new2 _ _ _ _ _).alloc _) k5 (by simp)
  have q3 := Blk.keep (Blk.new3 _ _ _ _ _ _) k5 (by simp)
  have hI : ImgAt w5 (exWV w.heap.size) exW := exW_at q1 q2 q3
  have K5 : Keep [] w w5 := ((((Keep.refl [] w).alloc _).alloc _).alloc _ |>.alloc _).trans k5 (fun y hy hlt => by simp at hy; omega)
  clear k5 q1 q2 q3
  go_wp2
  refine bodyPost_ret (results_blk rfl _ rfl d5 agg_image) rfl ?_
  exact ⟨_, rfl, hI, K5⟩

theorem new_in0 (v : ImgV) (w : World) (hTb : Tab w) (h : ImgAt w v exW) :
    Calls Tryd.prog 11 #[.agg (imgCells v exW).toArray, .int .i64 0, .agg (iv z16).toArray] w fun e w' => e = .returned (.tuple #[.agg (shCells v exW (clsE exW 0) (tabE exW 0) z16).toArray, .bool true]) ∧ Keep [] w w' :=
  new_in v exW 0 z16 w hTb h (by decide) rfl
set_option maxRecDepth 100000 in
set_option maxHeartbeats 2000000 in
theorem alive19 (w : World) (hT : Tab w) : Calls Tryd.prog 12 #[] w fun e w' => e = .returned (.bool true) ∧ Keep [] w w' := by
  go_enter Tryd.func12, Tryd.ntmps12
  go_wp2_with fail
  refine (exw_any _).mono ?_
  rintro e w1 ⟨v, rfl, hI, k1⟩
  have HN := Lib.hid (new_in0 v w1 (hT.keep0 k1) hI)
  have hcok := clsE_ok exW 0 hI.ok
  have HW0 := fun w' hk => Lib.hid (win_any v exW (clsE exW 0) (tabE exW 0) z16 0 w' (hT.keep0 (k1.then hk)) (hI.keep0 hk) hcok (tabE_len exW 0) z16_ok exW_small exW_both)
  have HW1 := fun w' hk => Lib.hid (win_any v exW (clsE exW 0) (tabE exW 0) z16 1 w' (hT.keep0 (k1.then hk)) (hI.keep0 hk) hcok (tabE_len exW 0) z16_ok exW_small exW_both)
  have HSp := fun w' hk => Lib.hid (span_any v exW (clsE exW 0) (tabE exW 0) z16 w' (hT.keep0 (k1.then hk)) (hI.keep0 hk) hcok (tabE_len exW 0) z16_ok exW_small exW_both exW_to)
  rw [exW_win0] at HW0
  rw [exW_win1] at HW1
  rw [exW_span] at HSp
  have HSL : Hid ((shCells v exW (clsE exW 0) (tabE exW 0) z16).length = 31) := shCells_len v exW _ (tabE_len exW 0) rfl
  have hone : Hid (∀ u ∈ shCells v exW (clsE exW 0) (tabE exW 0) z16, u.oneCell' = true) := shCells_one _ _ _ _ _
  have hse := fun w => span_eql 7 7 7 7 w
  have hsg := fun x y u v w => span_guard x y u v w
  have HK1 := Lib.hid k1
  clear hI hT hcok k1
  generalize shCells v exW (clsE exW 0) (tabE exW 0) z16 = sc at *
  generalize imgCells v exW = il at *
  go_wp2_with fail
  refine HN.out.mono ?_
  rintro e w2 ⟨rfl, k2⟩
  have HK2 := Lib.hid k2
  clear k2 HN
  go_wp2_with (refine stop_store 37 (.tmp 1) (.tmp 13) rfl ?_)
  constructor
  refine wpList_store_all rfl 37 (.tmp 1) (.tmp 13) rfl rfl rfl (vs := sc) (by rw [HSL.out]; exact agg_shift.2) (Blk.new _ _ _) hone.out ?_ ?_
  · rw [HSL.out]; rfl
  intro w3 d3 k3
  have k23 : Keep [] w2 w3 := ((Keep.refl [] w2).alloc _).trans k3 (fun y hy hlt => by simp at hy; omega)
  have HK3 := Lib.hid (HK2.out.then k23)
  have hA3 := Lib.hid d3.cellsAt
  clear k3 k23 HK2
  go_wp2_with (refine wpList_load_agg rfl 37 (.tmp 1) rfl rfl (cs := sc) (by rw [HSL.out]; exact agg_shift) hA3.out ?_)
  refine (HW0 _ HK3.out).out.mono ?_
  rintro e w4 ⟨rfl, k4⟩
  rw [numRes_some]
  have hA4 := Lib.hid (d3.keep0 k4).cellsAt
  have HK4 := Lib.hid (HK3.out.then k4)
  have HD4 := Lib.hid (d3.keep0 k4)
  clear k4 hA3 d3 HW0
  go_wp2_with (refine wpList_load_agg rfl 37 (.tmp 1) rfl rfl (cs := sc) (by rw [HSL.out]; exact agg_shift) hA4.out ?_)
  refine (HW1 _ HK4.out).out.mono ?_
  rintro e w5 ⟨rfl, k5⟩
  rw [numRes_some]
  have hA5 := Lib.hid (HD4.out.keep0 k5).cellsAt
  have HK5 := Lib.hid (HK4.out.then k5)
  clear k5 hA4 HD4 HW1
  go_wp2_with (refine wpList_load_agg rfl 37 (.tmp 1) rfl rfl (cs := sc) (by rw [HSL.out]; exact agg_shift) hA5.out ?_)
  refine (HSp _ HK5.out).out.mono ?_
  rintro e w6 ⟨rfl, k6⟩
  rw [show spanRes (some (7, 7)) = .tuple #[.agg #[.int .i64 7, .int .i64 7], .bool true] from rfl]
  have HK6 := Lib.hid (HK1.out.then (HK5.out.then k6))
  clear k6 hA5 HSp
  go_wp2
  go_ret
  exact ⟨rfl, by (repeat (first | with_reducible (refine Keep.drew ?_) | with_reducible (refine Keep.drewN ?_ _) | with_reducible (refine Keep.setCell ?_ (by simp) _) | with_reducible (refine Keep.alloc ?_ _) | with_reducible (exact Keep.refl _ _))); exact HK6.out⟩
end Go.Proofs.YtggjhjbcdnffnaaDoor

namespace Go.Proofs.YtggjhjbcdnffnaaDoor
open Go.RowKit

theorem setOf10_get {x : Img} {a : Nat} (h : a < x.modes.length) : setOf10 x (a : Int) = x.modes[a].set := by
  unfold setOf10
  rw [if_pos (by omega), Int.toNat_natCast, List.getD_eq_getElem?_getD, List.getElem?_eq_getElem h]; rfl
theorem edge_w {x : Img} (hr : (chkImg x).2 = 0) (ho : x.Ok) (k : Nat) (hk : k < x.edges.length) : ∃ f t, EdgeIn x k f t ∧ f < 4294967296 ∧ t < 4294967296 ∧ clsE x k = clsOf f t ∧ tabE x k = ceilOf x.tasks (f ||| t) ∧ InW x.tasks.length (f ||| t) ∧ InW x.tasks.length t := by
  have hR := right_of hr
  obtain ⟨⟨a0, a1⟩, ⟨b0, b1⟩, _⟩ := hR.edgeIn k hk
  obtain ⟨a, ha⟩ : ∃ a : Nat, x.edges[k].frm = (a : Int) := ⟨x.edges[k].frm.toNat, by omega⟩
  obtain ⟨b, hb⟩ : ∃ b : Nat, x.edges[k].to = (b : Int) := ⟨x.edges[k].to.toNat, by omega⟩
  have ha1 : a < x.modes.length := by omega
  have hb1 : b < x.modes.length := by omega
  have sf := setOf10_get ha1
  have st := setOf10_get hb1
  have hf : x.modes[a].set < 4294967296 := ho.set _ (List.getElem_mem _)
  have ht : x.modes[b].set < 4294967296 := ho.set _ (List.getElem_mem _)
  have hc : clsE x k = clsOf x.modes[a].set x.modes[b].set := by
    unfold clsE
    rw [List.getElem?_eq_getElem hk]
    show clsOf (setOf10 x x.edges[k].frm) (setOf10 x x.edges[k].to) = _
    rw [ha, hb, sf, st]
  have i1 : InW x.tasks.length x.modes[a].set := fun i hi => by
    cases e : x.modes[a].set.testBit i with
    | false => rfl
    | true => rw [← sf] at e; have := hR.set_lt (a : Int) i e; omega
  have i2 : InW x.tasks.length x.modes[b].set := fun i hi => by
    cases e : x.modes[b].set.testBit i with
    | false => rfl
    | true => rw [← st] at e; have := hR.set_lt (b : Int) i e; omega
  refine ⟨_, _, ⟨hk, a, b, ha1, hb1, ha, hb, rfl, rfl⟩, hf, ht, hc, ?_, fun i hi => ?_, i2⟩
  · unfold tabE
    rw [hc, clsOf_both hf ht]
  · rw [Nat.testBit_or, i1 i hi, i2 i hi]; rfl
/-- The first k offsets are the greater ones of two rows, the others the second's. -/
def mixL (L M : List Int) (k : Nat) : List Int := (List.range 16).map (fun j => if j < k then max (L.getD j 0) (M.getD j 0) else M.getD j 0)
theorem mixL_len (L M : List Int) (k : Nat) : (mixL L M k).length = 16 := by simp [mixL]
theorem mixL_get (L M : List Int) (k j : Nat) (hj : j < 16) : (mixL L M k)[j]? = some (if j < k then max (L.getD j 0) (M.getD j 0) else M.getD j 0) := by
  unfold mixL
  rw [List.getElem?_map, List.getElem?_range hj]; rfl
theorem mixL_zero {L M : List Int} (h : M.length = 16) : mixL L M 0 = M := by
  apply List.ext_getElem?
  intro j
  rcases Nat.lt_or_ge j 16 with hj | hj
  · rw [mixL_get _ _ _ _ hj, if_neg (by omega), List.getD_eq_getElem?_getD, List.getElem?_eq_getElem (by omega)]; rfl
  · rw [List.getElem?_eq_none (by rw [mixL_len]; omega), List.getElem?_eq_none (by omega)]
theorem mixL_set (L M : List Int) (k : Nat) : mixL L M (k + 1) = (mixL L M k).set k (max (L.getD k 0) (M.getD k 0)) := by
  apply List.ext_getElem?
  intro j
  rw [List.getElem?_set, mixL_len]
  rcases Nat.lt_or_ge j 16 with hj | hj
  · rw [mixL_get _ _ _ _ hj, mixL_get _ _ _ _ hj]
    by_cases e : k = j
    · subst e; simp [hj]
    · rw [if_neg e]
      by_cases h : j < k
      · rw [if_pos h, if_pos (by omega)]
      · rw [if_neg h, if_neg (by omega)]
  · rw [List.getElem?_eq_none (by rw [mixL_len]; omega), List.getElem?_eq_none (by rw [mixL_len]; omega)]
    split
    · rw [if_neg (by omega)]
    · rfl
theorem mixL_same {L M : List Int} {k : Nat} (hk : k < 16) (h : L.getD k 0 ≤ M.getD k 0) : mixL L M (k + 1) = mixL L M k := by
  rw [mixL_set, show max (L.getD k 0) (M.getD k 0) = M.getD k 0 by omega]
  apply List.ext_getElem?
  intro j
  rw [List.getElem?_set, mixL_len]
  split
  · rename_i e
    subst e
    rw [mixL_get _ _ _ _ hk, if_neg (by omega)]
  · rfl
theorem mixL_ok {L M : List Int} (hL : OffOk L) (hM : OffOk M) (k : Nat) : OffOk (mixL L M k) := by
  refine ⟨mixL_len L M k, fun z hz => ?_⟩
  obtain ⟨j, _, rfl⟩ := List.mem_map.1 hz
  have a := hL.get j
  have b := hM.get j
  split <;> omega
theorem mixL_le {L M : List Int} (hL : OffOk L) : LeOff L (mixL L M 16) := fun k => by
  rcases Nat.lt_or_ge k 16 with hk | hk
  · rw [List.getD_eq_getElem?_getD (l := mixL L M 16), mixL_get _ _ _ _ hk, if_pos hk, Option.getD_some]
    omega
  · rw [List.getD_eq_getElem?_getD (l := mixL L M 16), List.getElem?_eq_none (by rw [mixL_len]; omega), List.getD_eq_getElem?_getD (l := L), List.getElem?_eq_none (by rw [hL.1]; omega)]
    exact Int.le_refl _
theorem iv_set (l : List Int) (k : Nat) (z : Int) : (iv l).toArray.setIfInBounds k (.int .i64 z) = (iv (l.set k z)).toArray := by
  unfold iv
  rw [List.setIfInBounds_toArray, List.map_set]
end Go.Proofs.YtggjhjbcdnffnaaDoor
