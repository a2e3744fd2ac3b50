/- The methods of tally, walked: what they answer of any row of events. -/
import Derived.Test.YtgonnddgljgghaaRows
import Derived.Test.YtgonnddgljgghaaAgg
import Derived.Test.YtgonnddgljgghaaDigText
import Derived.Deep.QuietTactic
import Derived.BigQuiet
namespace Go.Proofs.Ytgonnddgljgghaa
open Go.RowKit

structure Ev where
  tick : Int
  kind : Int
  a : Int
  b : Int
def evCells (e : Ev) : List Value := [.int .i64 e.tick, .int .i64 e.kind, .int .i64 e.a, .int .i64 e.b]
def evRow (l : List Ev) : List Value := l.flatMap evCells
theorem evRow_at (l : List Ev) (k : Nat) (hk : k < l.length) (j : Nat) (hj : j < 4) : (evRow l)[k * 4 + j]? = (evCells l[k])[j]? := by
  induction l generalizing k with
  | nil => simp at hk
  | cons e l ih =>
    have e1 : evRow (e :: l) = evCells e ++ evRow l := rfl
    cases k with
    | zero => rw [e1, List.getElem?_append_left (by simp [evCells]; omega)]; simp
    | succ k =>
      have := ih k (by simpa using hk)
      rw [e1, List.getElem?_append_right (by simp [evCells]; omega), show (k + 1) * 4 + j - (evCells e).length = k * 4 + j by simp [evCells]; omega]
      simpa using this
def cnt (l : List Ev) (k : Int) : Nat := (l.filter (fun e => e.kind == k)).length
theorem cnt_snoc (l : List Ev) (e : Ev) (k : Int) : cnt (l ++ [e]) k = cnt l k + if e.kind = k then 1 else 0 := by
  unfold cnt
  rw [List.filter_append, List.length_append]
  by_cases h : e.kind = k <;> simp [h]
theorem cnt_le (l : List Ev) (k : Int) : cnt l k ≤ l.length := List.length_filter_le _ _
/-- The tally of a row of events, as eleven numbers. -/
def tal (l : List Ev) : List Int := (List.range 11).map (fun i : Nat => if i = 0 then (0 : Int) else (cnt l (i : Int) : Int))
theorem tal_len (l : List Ev) : (tal l).length = 11 := by simp [tal]
theorem tal_get (l : List Ev) (i : Nat) (hi : i < 11) : (tal l)[i]'(by rw [tal_len]; exact hi) = if i = 0 then 0 else (cnt l (i : Int) : Int) := by simp [tal]
theorem tal_out (l : List Ev) (e : Ev) (h : e.kind < 1 ∨ 10 < e.kind) : tal (l ++ [e]) = tal l := by
  unfold tal
  apply List.map_congr_left
  intro i hi
  rw [List.mem_range] at hi
  by_cases h0 : i = 0
  · rw [if_pos h0, if_pos h0]
  · rw [if_neg h0, if_neg h0, cnt_snoc, if_neg (by omega)]; rfl
theorem tal_in (l : List Ev) (e : Ev) (k : Nat) (h : e.kind = (k : Int)) (h1 : 1 ≤ k) (h2 : k ≤ 10) : tal (l ++ [e]) = (tal l).set k ((cnt l (k : Int) : Int) + 1) := by
  apply List.ext_getElem (by simp [tal_len])
  intro i hi hi'
  rw [tal_len] at hi
  rw [tal_get _ i hi, List.getElem_set]
  by_cases e1 : k = i
  · subst e1
    rw [if_neg (by omega), if_pos rfl, cnt_snoc, if_pos h]; omega
  · rw [if_neg e1, tal_get _ i hi]
    by_cases h0 : i = 0
    · rw [if_pos h0, if_pos h0]
    · rw [if_neg h0, if_neg h0, cnt_snoc, if_neg (by omega)]; rfl

abbrev intsV (xs : List Int) : List Value := xs.map (Value.int .i64)
theorem intsV_get {xs : List Int} {k : Nat} (h : k < xs.length) : (intsV xs)[k]? = some (.int .i64 xs[k]) := by rw [List.getElem?_map, List.getElem?_eq_getElem h]; rfl
theorem intsV_one (xs : List Int) : ∀ u ∈ intsV xs, u.oneCell' = true := ints_oneCell .i64 xs
theorem agg_tally : AggOf Try.prog 61 11 := ⟨by kernel_rfl, by kernel_rfl⟩
theorem agg_event : AggOf Try.prog 101 4 := ⟨by kernel_rfl, by kernel_rfl⟩

set_option maxRecDepth 100000 in
set_option maxHeartbeats 1000000 in
theorem tallyOf_any (A : Option Addr) (n c : Nat) (l : List Ev) (w : World) (hr : Reads w 4 A n (evRow l)) (hn : l.length = n) (hm : n ≤ maxLen) :
    Calls Try.prog 36 #[.slice A n c] w fun e w' => e = .returned (.agg (intsV (tal l)).toArray) ∧ Keep [] w w' := by
  unfold maxLen at hm
  go_enter Try.func36, Try.ntmps36
  have HN := Lib.hid hn
  clear hn
  obtain ⟨W0, hW0⟩ : ∃ W0, (w.alloc (.cells (intsV (tal [])).toArray 61)).alloc (.cells (intsV (tal [])).toArray 61) = W0 := ⟨_, rfl⟩
  have hsz : W0.heap.size = w.heap.size + 2 := by rw [← hW0]; simp
  have b0 : Blk W0 w.heap.size 61 (intsV (tal [])).toArray := by rw [← hW0]; exact (Blk.new _ _ _).alloc _
  have b1 : Blk W0 (w.heap.size + 1) 61 (intsV (tal [])).toArray := by
    rw [← hW0]; have := Blk.new (w.alloc (.cells (intsV (tal [])).toArray 61)) 61 (intsV (tal [])).toArray; rw [World.size_alloc] at this; exact this
  have K0 : Keep [] w W0 := by rw [← hW0]; exact ((Keep.refl _ w).alloc _).alloc _
  have hW : (w.alloc (.cells #[.int .i64 0, .int .i64 0, .int .i64 0, .int .i64 0, .int .i64 0, .int .i64 0, .int .i64 0, .int .i64 0, .int .i64 0, .int .i64 0, .int .i64 0] 61)).alloc (.cells #[.int .i64 0, .int .i64 0, .int .i64 0, .int .i64 0, .int .i64 0, .int .i64 0, .int .i64 0, .int .i64 0, .int .i64 0, .int .i64 0, .int .i64 0] 61) = W0 := by rw [← hW0]; rfl
  have HW := Lib.hid hW
  clear hW hW0
  go_wp2
  rw [HW.out]
  go_loopw [9] (fun vi wr => ∃ k : Nat, k ≤ n ∧ vi = .int .i64 k ∧ Blk wr w.heap.size 61 (intsV (tal [])).toArray ∧ Blk wr (w.heap.size + 1) 61 (intsV (tal (l.take k))).toArray ∧ Keep [] w wr) (fun vi _ => n - (intOf vi).toNat)
  case atStart => exact ⟨0, Nat.zero_le _, rfl, b0, b1, K0⟩
  case round =>
    clear b0 b1 K0 HW hsz
    obtain ⟨k, hk, rfl, hb0, hb1, hkeep⟩ := hrel
    by_cases hlt : k < n
    · have hl : k < l.length := by rw [HN.out]; exact hlt
      obtain ⟨b, o, rfl, hb, hc⟩ := hr.addr (by omega)
      have hcell := fun j hj => (hkeep.cell (p := ⟨b, o + (k * 4 + j), none⟩) hb (by simp)).trans (hc (k * 4 + j) _ ((evRow_at l k hl j hj).trans (List.getElem?_eq_getElem (by simpa [evCells] using hj))))
      have hc0 := hcell 0 (by decide)
      have hc1 := hcell 1 (by decide)
      have hc2 := hcell 2 (by decide)
      have hc3 := hcell 3 (by decide)
      simp only [evCells, Nat.add_zero, ← Nat.add_assoc, List.getElem_cons_zero, List.getElem_cons_succ] at hc0 hc1 hc2 hc3
      clear hcell
      have ht : Hid (l.take (k + 1) = l.take k ++ [l[k]]) := by show _ = _; rw [List.take_succ_eq_append_getElem hl]
      generalize l[k] = e at *
      obtain ⟨et, ek, ea, eb⟩ := e
      simp only at hc0 hc1 hc2 hc3
      have hfin0 := hb0.alloc (.cells #[.int .i64 et, .int .i64 ek, .int .i64 ea, .int .i64 eb] 101)
      have hfin1 := hb1.alloc (.cells #[.int .i64 et, .int .i64 ek, .int .i64 ea, .int .i64 eb] 101)
      have hK := hkeep.alloc (.cells #[.int .i64 et, .int .i64 ek, .int .i64 ea, .int .i64 eb] 101)
      by_cases he : 1 ≤ ek ∧ ek ≤ 10
      · obtain ⟨he1, he2⟩ := he
        obtain ⟨q, rfl⟩ : ∃ q : Nat, ek = (q : Int) := ⟨ek.toNat, by omega⟩
        have hct := hfin1.cell q
        have hcf := hfin1.frozen q
        have hcl := cnt_le (l.take k) (q : Int)
        rw [List.length_take] at hcl
        rw [List.getElem?_toArray, intsV_get (by rw [tal_len]; omega), tal_get _ q (by omega), if_neg (by omega)] at hct
        have HT : Hid (tal (l.take (k + 1)) = (tal (l.take k)).set q ((cnt (l.take k) (q : Int) : Int) + 1)) := by
          show _ = _
          rw [ht.out, tal_in _ ⟨et, q, ea, eb⟩ q rfl (by omega) (by omega)]
        clear hb0 hb1 hkeep hr hc
        go_wp2
        go_roundw
        case rel =>
          refine ⟨k + 1, by omega, by go_num, hfin0.far (by simp) _, ?_, hK.setCell (fun h => by simp only at h; omega) _⟩
          have := hfin1.set_ q (.int .i64 ((cnt (l.take k) (q : Int) : Int) + 1))
          rw [HT.out]
          have e1 : (intsV (tal (l.take k))).toArray.setIfInBounds q (.int .i64 ((cnt (l.take k) (q : Int) : Int) + 1)) = (intsV ((tal (l.take k)).set q ((cnt (l.take k) (q : Int) : Int) + 1))).toArray := by
            rw [intsV, intsV, List.map_set, List.setIfInBounds_toArray]
          rw [← e1]
          exact this
        case measure => simp [intOf] <;> omega
      · have HT : Hid (tal (l.take (k + 1)) = tal (l.take k)) := by
          show _ = _
          rw [ht.out, tal_out _ ⟨et, ek, ea, eb⟩ (by simp only; omega)]
        have he2 : ek < 1 ∨ (1 ≤ ek ∧ 10 < ek) := by omega
        clear hb0 hb1 hkeep hr hc he
        rcases he2 with he3 | ⟨he3, he4⟩
        all_goals
          go_wp2
          go_roundw
          case rel => exact ⟨k + 1, by omega, by go_num, hfin0, by rw [HT.out]; exact hfin1, hK⟩
          case measure => simp [intOf] <;> omega
    · have hall : Hid (l.take k = l) := by show _ = _; exact List.take_of_length_le (by rw [HN.out]; omega)
      rw [hall.out] at hb1
      go_wp2_with (first
        | (refine wpList_load_agg rfl 61 (.tmp 3) rfl rfl (cs := intsV (tal l)) (by rw [List.length_map, tal_len]; exact agg_tally) hb1.cellsAt ?_)
        | (refine wpList_store_all rfl 61 (.tmp 2) (.tmp 28) rfl rfl rfl (vs := intsV (tal l)) (by rw [List.length_map, tal_len]; exact agg_tally.2) hb0 (intsV_one _) (by simp [tal_len]) ?_; intro w2 hb2 hk2))
      refine bodyPost_ret (results_blk rfl _ rfl hb2 (by rw [List.length_map, tal_len]; exact agg_tally)) rfl ?_
      exact ⟨rfl, hkeep.trans hk2 (by simp)⟩

/-- How many there are of the kinds up to k. -/
def total (l : List Ev) : Nat → Nat
  | 0 => 0
  | k + 1 => total l k + cnt l ((k + 1 : Nat) : Int)
theorem total_le (l : List Ev) : ∀ k, total l k ≤ k * l.length := by
  intro k
  induction k with
  | zero => simp [total]
  | succ k ih =>
    have := cnt_le l ((k + 1 : Nat) : Int)
    rw [total, Nat.add_mul]; omega
theorem tal_at (l : List Ev) (k : Nat) (h1 : 1 ≤ k) (h : k < 11) : (intsV (tal l)).toArray[k]? = some (.int .i64 (cnt l (k : Int) : Int)) := by
  rw [List.getElem?_toArray, intsV_get (by rw [tal_len]; exact h), tal_get _ k h, if_neg (by omega)]
theorem tal_zero (l : List Ev) : (intsV (tal l)).toArray[0]? = some (.int .i64 0) := by
  rw [List.getElem?_toArray, intsV_get (by rw [tal_len]; decide), tal_get _ 0 (by decide), if_pos rfl]
/-- A tally's number of a kind. -/
def cntK (l : List Ev) (k : Int) : Int := if 1 ≤ k ∧ k ≤ 10 then (cnt l k : Int) else 0

set_option maxRecDepth 100000 in
set_option maxHeartbeats 1000000 in
theorem tallyCount_any (l : List Ev) (k : Int) (w : World) :
    Calls Try.prog 39 #[.agg (intsV (tal l)).toArray, .int .i64 k] w fun e w' => e = .returned (.int .i64 (cntK l k)) ∧ Keep [] w w' := by
  have hK := (Keep.refl [] w).alloc (.cells (intsV (tal l)).toArray 61)
  have hb := Blk.new w 61 (intsV (tal l)).toArray
  by_cases h : 1 ≤ k ∧ k ≤ 10
  · obtain ⟨h1, h2⟩ := h
    obtain ⟨q, rfl⟩ : ∃ q : Nat, k = (q : Int) := ⟨k.toNat, by omega⟩
    have hc := hb.cell q
    rw [tal_at l q (by omega) (by omega)] at hc
    have H : Hid (cntK l (q : Int) = (cnt l (q : Int) : Int)) := by show _ = _; unfold cntK; rw [if_pos ⟨h1, h2⟩]
    generalize (intsV (tal l)).toArray = cs at *
    clear hb
    go_enter Try.func39, Try.ntmps39
    go_wp2
    go_ret
    exact ⟨by rw [H.out]; rfl, hK⟩
  · have H : Hid (cntK l k = 0) := by show _ = _; unfold cntK; rw [if_neg h]
    have h2 : k < 1 ∨ (1 ≤ k ∧ 10 < k) := by omega
    generalize (intsV (tal l)).toArray = cs at *
    clear hb h
    rcases h2 with h3 | ⟨h3, h4⟩
    all_goals
      go_enter Try.func39, Try.ntmps39
      go_wp2
      go_ret
      exact ⟨by rw [H.out]; rfl, hK⟩

def sound (l : List Ev) : Bool := decide (cnt l 3 ≤ cnt l 2) && decide (cnt l 4 ≤ cnt l 3) && decide (cnt l 6 ≤ cnt l 5) && decide (cnt l 8 ≤ cnt l 7) && decide (cnt l 9 ≤ cnt l 8)
set_option maxRecDepth 100000 in
set_option maxHeartbeats 2000000 in
theorem tallySound_any (l : List Ev) (w : World) :
    Calls Try.prog 43 #[.agg (intsV (tal l)).toArray] w fun e w' => e = .returned (.bool (sound l)) ∧ Keep [] w w' := by
  have hK := (Keep.refl [] w).alloc (.cells (intsV (tal l)).toArray 61)
  have hb := Blk.new w 61 (intsV (tal l)).toArray
  have hc := fun k h1 h2 => (hb.cell k).trans (tal_at l k h1 h2)
  have c2 := hc 2 (by decide) (by decide)
  have c3 := hc 3 (by decide) (by decide)
  have c4 := hc 4 (by decide) (by decide)
  have c5 := hc 5 (by decide) (by decide)
  have c6 := hc 6 (by decide) (by decide)
  have c7 := hc 7 (by decide) (by decide)
  have c8 := hc 8 (by decide) (by decide)
  have c9 := hc 9 (by decide) (by decide)
  have HS : Hid (sound l = (decide (cnt l 3 ≤ cnt l 2) && decide (cnt l 4 ≤ cnt l 3) && decide (cnt l 6 ≤ cnt l 5) && decide (cnt l 8 ≤ cnt l 7) && decide (cnt l 9 ≤ cnt l 8))) := show _ = _ from rfl
  generalize cnt l 2 = n2 at *
  generalize cnt l 3 = n3 at *
  generalize cnt l 4 = n4 at *
  generalize cnt l 5 = n5 at *
  generalize cnt l 6 = n6 at *
  generalize cnt l 7 = n7 at *
  generalize cnt l 8 = n8 at *
  generalize cnt l 9 = n9 at *
  generalize (intsV (tal l)).toArray = cs at *
  clear hb hc
  have hcase : (n2 < n3) ∨ (n3 ≤ n2 ∧ n3 < n4) ∨ (n3 ≤ n2 ∧ n4 ≤ n3 ∧ n5 < n6) ∨ (n3 ≤ n2 ∧ n4 ≤ n3 ∧ n6 ≤ n5 ∧ n7 < n8) ∨ (n3 ≤ n2 ∧ n4 ≤ n3 ∧ n6 ≤ n5 ∧ n8 ≤ n7 ∧ n8 < n9) ∨ (n3 ≤ n2 ∧ n4 ≤ n3 ∧ n6 ≤ n5 ∧ n8 ≤ n7 ∧ n9 ≤ n8) := by omega
  rcases hcase with h1 | ⟨h1, h2⟩ | ⟨h1, h2, h3⟩ | ⟨h1, h2, h3, h4⟩ | ⟨h1, h2, h3, h4, h5⟩ | ⟨h1, h2, h3, h4, h5⟩
  all_goals
    go_enter Try.func43, Try.ntmps43
    go_wp2
    go_ret
    exact ⟨by rw [HS.out]; simp <;> omega, hK⟩

theorem tal_sum (l : List Ev) : ∀ k, k ≤ 10 → ((tal l).take (k + 1)).sum = (total l k : Int) := by
  intro k
  induction k with
  | zero =>
    intro _
    rw [List.take_succ_eq_append_getElem (by rw [tal_len]; decide), tal_get _ 0 (by decide), if_pos rfl]; rfl
  | succ k ih =>
    intro h
    rw [List.take_succ_eq_append_getElem (by rw [tal_len]; omega), List.sum_append, ih (by omega), tal_get _ (k + 1) (by omega), if_neg (by omega), total]
    simp
set_option maxRecDepth 100000 in
set_option maxHeartbeats 1000000 in
theorem tallyAll_any (l : List Ev) (w : World) (hl : l.length ≤ 1000000) :
    Calls Try.prog 42 #[.agg (intsV (tal l)).toArray] w fun e w' => e = .returned (.int .i64 (total l 10 : Int)) ∧ Keep [] w w' := by
  have hK := (Keep.refl [] w).alloc (.cells (intsV (tal l)).toArray 61)
  have hb := Blk.new w 61 (intsV (tal l)).toArray
  have hidx := fun k (hk : k < 11) v hv W => run_index_agg (P := Try.prog) (t := 61) (e := 3) (n := 11) (cs := (intsV (tal l)).toArray) (v := v) Try.underlying61 Try.underlying3 rfl (by kernel_rfl) k hk hv W
  have hget : ∀ k, (hk : k < 11) → (intsV (tal l)).toArray[k]? = some (.int .i64 ((tal l)[k]'(by rw [tal_len]; exact hk))) := fun k hk => by rw [List.getElem?_toArray, intsV_get (by rw [tal_len]; exact hk)]
  have hsum0 : ∀ k, k ≤ 11 → 0 ≤ ((tal l).take k).sum ∧ ((tal l).take k).sum ≤ 11000000 := fun k hk => by
    rcases k with _ | k
    · simp
    · rw [tal_sum l k (by omega)]
      have h1 := total_le l k
      have h2 : k * l.length ≤ 10 * 1000000 := Nat.mul_le_mul (by omega) hl
      omega
  have hstep : ∀ k, (hk : k < 11) → ((tal l).take (k + 1)).sum = ((tal l).take k).sum + (tal l)[k]'(by rw [tal_len]; exact hk) := fun k hk => by
    rw [List.take_succ_eq_append_getElem (by rw [tal_len]; exact hk), List.sum_append]; simp
  have HT := Lib.hid (tal_sum l 10 (by decide))
  have HG := Lib.hid hget
  have HI := Lib.hid hidx
  have HS := Lib.hid hsum0
  have HP := Lib.hid hstep
  obtain ⟨cs, hcs⟩ : ∃ cs, cs = (intsV (tal l)).toArray := ⟨_, rfl⟩
  have hlenc : cs.size = 11 := by rw [hcs]; simp [tal_len]
  clear hget hidx hsum0 hstep
  rw [← hcs] at hK hb HG HI ⊢
  have HC := Lib.hid hcs
  have HL := Lib.hid hlenc
  clear hcs hlenc
  have hA : AggOf Try.prog 61 cs.toList.length := by rw [Array.length_toList, HL.out]; exact agg_tally
  have hca : CellsAt (w.alloc (.cells cs 61)) w.heap.size 0 cs.toList := fun j u hu => by rw [Nat.zero_add, hb.cell]; simpa using hu
  have HA := Lib.hid hA
  have HCA := Lib.hid hca
  clear hb hA hca
  go_enter Try.func42, Try.ntmps42
  go_wp2_with (refine wpList_load_agg rfl 61 (.tmp 1) rfl rfl (cs := cs.toList) HA.out HCA.out ?_)
  go_loop [3, 7] (fun vn vi => ∃ k : Nat, k ≤ 11 ∧ vi = .int .i64 k ∧ vn = .int .i64 ((tal l).take k).sum) (fun _ vi => 11 - (intOf vi).toNat)
  case atStart => exact ⟨0, by omega, rfl, rfl⟩
  case round =>
    obtain ⟨k, hk, rfl, rfl⟩ := hrel
    by_cases hlt : k < 11
    · have hrun := fun W => HI.out k hlt _ (HG.out k hlt) W
      have h1 := HS.out k (by omega)
      have h2 := HS.out (k + 1) (by omega)
      have h3 := Lib.hid (HP.out k hlt)
      rw [HP.out k hlt] at h2
      generalize ((tal l).take k).sum = s at *
      generalize (tal l)[k]'_ = d at *
      go_wp2
      go_round
      case rel => exact ⟨k + 1, by omega, by go_num, by rw [h3.out]⟩
      case measure => simp [intOf] <;> omega
    · obtain rfl : k = 11 := by omega
      go_wp2
      go_ret
      exact ⟨by rw [← HT.out]; rfl, hK⟩
end Go.Proofs.Ytgonnddgljgghaa
