/- Join, Text and Some of tally, walked; the law's helpers. -/
import Derived.Test.YtgonnddgljgghaaTally
import Derived.Test.YtgonnddgljgghaaIter
import Derived.Test.YtgonnddgljgghaaRef03
import Derived.Test.YtgonnddgljgghaaDigRead
namespace Go.Proofs.Ytgonnddgljgghaa
open Go.RowKit

theorem cnt_append (l m : List Ev) (k : Int) : cnt (l ++ m) k = cnt l k + cnt m k := by unfold cnt; rw [List.filter_append, List.length_append]
def mix (l m : List Ev) (k : Nat) : List Int := (tal (l ++ m)).take k ++ (tal l).drop k
theorem mix_len (l m : List Ev) (k : Nat) (hk : k ≤ 11) : (mix l m k).length = 11 := by simp [mix, tal_len]; omega
theorem mix_at (l m : List Ev) (k : Nat) (hk : k < 11) : (mix l m k)[k]? = some ((tal l)[k]'(by rw [tal_len]; exact hk)) := by
  unfold mix
  rw [List.getElem?_append_right (by simp [tal_len]; omega), List.length_take, tal_len, List.getElem?_drop, Nat.min_eq_left (by omega), Nat.sub_self, Nat.add_zero, List.getElem?_eq_getElem]
theorem tal_append (l m : List Ev) (k : Nat) (hk : k < 11) : (tal (l ++ m))[k]'(by rw [tal_len]; exact hk) = (tal l)[k]'(by rw [tal_len]; exact hk) + (tal m)[k]'(by rw [tal_len]; exact hk) := by
  rw [tal_get _ k hk, tal_get _ k hk, tal_get _ k hk]
  split
  · rfl
  · rw [cnt_append]; omega
theorem splice_one (x y : List Int) (k : Nat) (hx : k < x.length) (hy : k < y.length) : y.take (k + 1) ++ x.drop (k + 1) = (y.take k ++ x.drop k).set k y[k] := by
  apply List.ext_getElem (by simp; omega)
  intro i hi hi'
  rw [List.getElem_set]
  simp only [List.getElem_append, List.length_take, List.getElem_take, List.getElem_drop]
  by_cases h : k = i
  · subst h
    rw [dif_pos (by omega), if_pos rfl]
  · rw [if_neg h]
    by_cases h2 : i < k
    · rw [dif_pos (by omega), dif_pos (by omega)]
    · rw [dif_neg (by omega), dif_neg (by omega)]
      congr 1
      omega
theorem mix_step (l m : List Ev) (k : Nat) (hk : k < 11) : mix l m (k + 1) = (mix l m k).set k ((tal l)[k]'(by rw [tal_len]; exact hk) + (tal m)[k]'(by rw [tal_len]; exact hk)) := by
  rw [← tal_append l m k hk]
  exact splice_one _ _ _ (by rw [tal_len]; exact hk) (by rw [tal_len]; exact hk)
theorem mix_zero (l m : List Ev) : mix l m 0 = tal l := by simp [mix]
theorem mix_end (l m : List Ev) : mix l m 11 = tal (l ++ m) := by
  unfold mix
  rw [List.take_of_length_le (by rw [tal_len]; exact Nat.le_refl _), List.drop_eq_nil_of_le (by rw [tal_len]; exact Nat.le_refl _), List.append_nil]
theorem tal_bnd (l : List Ev) (k : Nat) (hk : k < 11) (hl : l.length ≤ 1000000) : 0 ≤ (tal l)[k]'(by rw [tal_len]; exact hk) ∧ (tal l)[k]'(by rw [tal_len]; exact hk) ≤ 1000000 := by
  rw [tal_get _ k hk]
  have := cnt_le l (k : Int)
  split <;> omega

set_option maxRecDepth 100000 in
set_option maxHeartbeats 1000000 in
theorem tallyJoin_any (l m : List Ev) (w : World) (hl : l.length ≤ 1000000) (hm : m.length ≤ 1000000) :
    Calls Try.prog 40 #[.agg (intsV (tal l)).toArray, .agg (intsV (tal m)).toArray] w fun e w' => e = .returned (.agg (intsV (tal (l ++ m))).toArray) ∧ Keep [] w w' := by
  obtain ⟨W0, hW0⟩ : ∃ W0, ((w.alloc (.cells (intsV (tal l)).toArray 61)).alloc (.cells (intsV (tal m)).toArray 61)).alloc (.cells (intsV (tal [])).toArray 61) = W0 := ⟨_, rfl⟩
  have b0 : Blk W0 w.heap.size 61 (intsV (tal l)).toArray := by rw [← hW0]; exact ((Blk.new _ _ _).alloc _).alloc _
  have b1 : Blk W0 (w.heap.size + 1) 61 (intsV (tal m)).toArray := by
    rw [← hW0]; have := Blk.new (w.alloc (.cells (intsV (tal l)).toArray 61)) 61 (intsV (tal m)).toArray; rw [World.size_alloc] at this; exact this.alloc _
  have b2 : Blk W0 (w.heap.size + 2) 61 (intsV (tal [])).toArray := by
    rw [← hW0]; have := Blk.new ((w.alloc (.cells (intsV (tal l)).toArray 61)).alloc (.cells (intsV (tal m)).toArray 61)) 61 (intsV (tal [])).toArray; rw [World.size_alloc, World.size_alloc] at this; exact this
  have K0 : Keep [] w W0 := by rw [← hW0]; exact (((Keep.refl _ w).alloc _).alloc _).alloc _
  have HW : Hid (((w.alloc (.cells (intsV (tal l)).toArray 61)).alloc (.cells (intsV (tal m)).toArray 61)).alloc (.cells #[.int .i64 0, .int .i64 0, .int .i64 0, .int .i64 0, .int .i64 0, .int .i64 0, .int .i64 0, .int .i64 0, .int .i64 0, .int .i64 0, .int .i64 0] 61) = W0) := by rw [← hW0]; rfl
  clear hW0
  obtain ⟨cl, hcl⟩ : ∃ cl, cl = (intsV (tal l)).toArray := ⟨_, rfl⟩
  obtain ⟨cm, hcm⟩ : ∃ cm, cm = (intsV (tal m)).toArray := ⟨_, rfl⟩
  have Bl : Hid (Blk W0 w.heap.size 61 (intsV (mix l m 0)).toArray) := by rw [mix_zero]; exact b0
  have Bm : Hid (Blk W0 (w.heap.size + 1) 61 (intsV (tal m)).toArray) := b1
  rw [← hcl, ← hcm] at HW ⊢
  clear b0 b1 hcl hcm
  go_enter Try.func40, Try.ntmps40
  go_wp2
  rw [HW.out]
  go_loopw [6] (fun vi wr => ∃ k : Nat, k ≤ 11 ∧ vi = .int .i64 k ∧ Blk wr w.heap.size 61 (intsV (mix l m k)).toArray ∧ Blk wr (w.heap.size + 1) 61 (intsV (tal m)).toArray ∧ Blk wr (w.heap.size + 2) 61 (intsV (tal [])).toArray ∧ Keep [] w wr) (fun vi _ => 11 - (intOf vi).toNat)
  case atStart => exact ⟨0, by omega, rfl, Bl.out, Bm.out, b2, K0⟩
  case round =>
    clear Bl Bm b2 K0 HW
    obtain ⟨k, hk, rfl, hb0, hb1, hb2, hkeep⟩ := hrel
    by_cases hlt : k < 11
    · have c0 := hb0.cell k
      have c1 := hb1.cell k
      rw [List.getElem?_toArray, List.getElem?_map, mix_at l m k hlt] at c0
      rw [List.getElem?_toArray, intsV_get (by rw [tal_len]; exact hlt)] at c1
      simp only [Option.map_some] at c0
      have f0 := hb0.frozen k
      have HM := Lib.hid (mix_step l m k hlt)
      have n1 := tal_bnd l k hlt hl
      have n2 := tal_bnd m k hlt hm
      generalize (tal l)[k]'_ = x at *
      generalize (tal m)[k]'_ = y at *
      go_wp2
      go_region
      go_wp2
      go_roundw
      case rel =>
        refine ⟨k + 1, by omega, by go_num, ?_, (hb1.far (by simp) _).drew, (hb2.far (by simp) _).drew, (hkeep.setCell (fun h => by simp only at h; omega) _).drew⟩
        have := hb0.set_ k (.int .i64 (x + y))
        rw [HM.out]
        have e1 : (intsV (mix l m k)).toArray.setIfInBounds k (.int .i64 (x + y)) = (intsV ((mix l m k).set k (x + y))).toArray := by
          rw [intsV, intsV, List.map_set, List.setIfInBounds_toArray]
        rw [← e1]
        exact this.drew
      case measure => simp [intOf] <;> omega
    · obtain rfl : k = 11 := by omega
      rw [mix_end] at hb0
      go_wp2_with (first
        | (refine wpList_load_agg rfl 61 (.tmp 2) rfl rfl (cs := intsV (tal (l ++ m))) (by rw [List.length_map, tal_len]; exact agg_tally) hb0.cellsAt ?_)
        | (refine wpList_store_all rfl 61 (.tmp 4) (.tmp 18) rfl rfl rfl (vs := intsV (tal (l ++ m))) (by rw [List.length_map, tal_len]; exact agg_tally.2) hb2 (intsV_one _) (by simp [tal_len]) ?_; intro w2 hb3 hk2))
      refine bodyPost_ret (results_blk rfl _ rfl hb3 (by rw [List.length_map, tal_len]; exact agg_tally)) rfl ?_
      exact ⟨rfl, hkeep.trans hk2 (fun y hy h => by simp at hy; omega)⟩

/-- The text of a tally: the numbers of the kinds up to k, with a blank between. -/
def talText (l : List Ev) : Nat → List UInt8
  | 0 => []
  | k + 1 => (if k = 0 then [] else talText l k ++ [32]) ++ decL (clampN (cnt l ((k + 1 : Nat) : Int)))
theorem talText_len (l : List Ev) : ∀ k, (talText l k).length ≤ 11 * k
  | 0 => by simp [talText]
  | k + 1 => by
    have h := talText_len l k
    have h2 := decL_len10 (cnt l ((k + 1 : Nat) : Int))
    have h3 : (if k = 0 then [] else talText l k ++ [32]).length ≤ 11 * k + 1 := by split <;> simp <;> omega
    rw [talText, List.length_append]
    omega
theorem talText_ne (l : List Ev) (k : Nat) : talText l (k + 1) ≠ [] := by
  rw [talText]
  intro h
  have := (List.append_eq_nil_iff.1 h).2
  have h2 := decL_ne' (clampN (cnt l ((k + 1 : Nat) : Int)))
  exact h2 this

set_option maxRecDepth 100000 in
set_option maxHeartbeats 1000000 in
theorem tallyText_any (l : List Ev) (w : World) :
    Calls Try.prog 41 #[.agg (intsV (tal l)).toArray] w (RetStr w (talText l 10)) := by
  have hK := (Keep.refl [] w).alloc (.cells (intsV (tal l)).toArray 61)
  have hb := Blk.new w 61 (intsV (tal l)).toArray
  have hat := fun k h1 h2 => Lib.hid (tal_at l k h1 h2)
  generalize (intsV (tal l)).toArray = cs at *
  go_enter Try.func41, Try.ntmps41
  go_wp2
  go_loopw [3, 4] (fun vs vi wr => ∃ k : Nat, k ≤ 10 ∧ vi = .int .i64 (k + 1 : Nat) ∧ vs = strOf (talText l k) ∧ Blk wr w.heap.size 61 cs ∧ Keep [] w wr) (fun _ vi _ => 11 - (intOf vi).toNat)
  case atStart => exact ⟨0, by omega, rfl, rfl, hb, hK⟩
  case round =>
    clear hb hK
    obtain ⟨k, hk, rfl, rfl, hb, hkeep⟩ := hrel
    by_cases hlt : k < 10
    · have hc := (hb.cell (k + 1)).trans (hat (k + 1) (by omega) (by omega)).out
      have hlen := talText_len l k
      have hlen2 := decL_len10 (cnt l ((k + 1 : Nat) : Int))
      have hneq := fun W => run_neq_str (P := Try.prog) 9 (talText l k) [] W
      have hd1 : decide (talText l k = []) = decide (k = 0) := by
        cases k with
        | zero => rfl
        | succ k => have := talText_ne l k; simp [this]
      rw [hd1] at hneq
      have had1 : ∀ W, (binOp .add 9 (strOf (talText l k)) (.string ⟨#[32]⟩)).run Try.prog W = .ok (strOf (talText l k ++ [32])) W := fun W => run_add_str _ _ [32] (by simp; omega) W
      have hneq' : ∀ W, (binOp .neq 9 (strOf (talText l k)) (.string ⟨#[]⟩)).run Try.prog W = .ok (.bool (!decide (k = 0))) W := hneq
      have had2 := fun W => run_add_str (P := Try.prog) 9 (talText l k ++ [32]) (decL (clampN (cnt l ((k + 1 : Nat) : Int)))) (by rw [List.length_append]; simp only [List.length_cons, List.length_nil]; omega) W
      have had3 := fun W => run_add_str (P := Try.prog) 9 (talText l k) (decL (clampN (cnt l ((k + 1 : Nat) : Int)))) (by omega) W
      have HT : Hid (talText l (k + 1) = (if k = 0 then [] else talText l k ++ [32]) ++ decL (clampN (cnt l ((k + 1 : Nat) : Int)))) := show _ = _ from rfl
      have hgd : ∀ W, (eqGuard .neq 9 (.tmp 9) (.const (.string ⟨#[]⟩)) (strOf (talText l k)) (.string ⟨#[]⟩)).run Try.prog W = .ok () W := fun W => rfl
      generalize hcn : cnt l ((k + 1 : Nat) : Int) = c at *
      clear hcn hd1 hneq
      by_cases h0 : k = 0
      · have hd : (!decide (k = 0)) = false := by simp [h0]
        rw [hd] at hneq'
        have H2 : Hid (talText l (k + 1) = talText l k ++ decL (clampN c)) := by show _ = _; rw [HT.out, if_pos h0]; subst h0; rfl
        generalize talText l k = x at *
        clear h0 hd HT had1 had2
        go_wp2_with fail
        refine (text_any c _).mono ?_
        rintro e w1 ⟨T, rfl, hT, hk1⟩
        have hTs : Value.string T = strOf (decL (clampN c)) := by rw [← hT, strOf_bytes]
        rw [hTs]
        clear hT hTs
        go_wp2
        go_roundw
        case rel => exact ⟨k + 1, by omega, by go_num, by rw [H2.out], hb.keep hk1 (by simp), hkeep.then hk1⟩
        case measure => simp [intOf] <;> omega
      · have hd : (!decide (k = 0)) = true := by simp [h0]
        rw [hd] at hneq'
        have H2 : Hid (talText l (k + 1) = talText l k ++ [32] ++ decL (clampN c)) := by show _ = _; rw [HT.out, if_neg h0]
        generalize talText l k = x at *
        clear h0 hd HT had3
        go_wp2_with fail
        refine (text_any c _).mono ?_
        rintro e w1 ⟨T, rfl, hT, hk1⟩
        have hTs : Value.string T = strOf (decL (clampN c)) := by rw [← hT, strOf_bytes]
        rw [hTs]
        clear hT hTs
        go_wp2
        go_roundw
        case rel => exact ⟨k + 1, by omega, by go_num, by rw [H2.out]; simp, hb.keep hk1 (by simp), hkeep.then hk1⟩
        case measure => simp [intOf] <;> omega
    · obtain rfl : k = 10 := by omega
      go_wp2
      go_ret
      exact ⟨⟨(talText l 10).toArray⟩, rfl, rfl, hkeep⟩
end Go.Proofs.Ytgonnddgljgghaa
