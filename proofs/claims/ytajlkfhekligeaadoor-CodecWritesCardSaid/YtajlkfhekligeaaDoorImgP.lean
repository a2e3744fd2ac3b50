/- May new tasks come from these offsets on; may an edge be: the program's own tests. -/
import Derived.Test.YtajlkfhekligeaaDoorImgO
import Derived.Test.YtajlkfhekligeaaDoorImgE
namespace Go.Proofs.YtajlkfhekligeaaDoor
open Go.RowKit

def minusN (s l : Nat) : Nat := s &&& (4294967295 - l)
theorem minusN_lt (s l : Nat) (hs : s < 4294967296) : minusN s l < 4294967296 := Nat.lt_of_le_of_lt Nat.and_le_left hs
theorem minusN_testBit (s l i : Nat) (hs : s < 4294967296) (hl : l < 4294967296) : (minusN s l).testBit i = (s.testBit i && !l.testBit i) := by
  unfold minusN
  have h := Nat.testBit_two_pow_sub_succ (n := 32) (x := l) hl i
  rw [Nat.testBit_and, show 4294967295 - l = 2 ^ 32 - (l + 1) by omega, h]
  by_cases hi : i < 32
  · simp [hi]
  · have := Nat.testBit_lt_two_pow (x := s) (i := i) (Nat.lt_of_lt_of_le (show s < 2 ^ 32 from hs) (Nat.pow_le_pow_right (by decide) (by omega)))
    simp [this]
/-- Offsets, by the set of new tasks. -/
def offsF (prot : Int) (fr : Nat) : Nat → List Int → Bool
  | _, [] => true
  | k, n :: l => inR n 0 16384 && (n == 0 || (decide (prot = 3) && fr.testBit k)) && offsF prot fr (k + 1) l
theorem offsF_eq (prot : Int) (a b : Nat) (ha : a < 4294967296) (hb : b < 4294967296) : ∀ (l : List Int) (k : Nat), offsF prot (minusN b a) k l = offsOk prot a b k l
  | [], _ => rfl
  | n :: l, k => by rw [offsF, offsOk, offsF_eq prot a b ha hb l, minusN_testBit _ _ _ hb ha, Bool.and_assoc (decide (prot = 3))]
theorem offsF_append (prot : Int) (fr : Nat) : ∀ (l m : List Int) (k : Nat), offsF prot fr k (l ++ m) = (offsF prot fr k l && offsF prot fr (k + l.length) m)
  | [], m, k => by simp [offsF]
  | n :: l, m, k => by
    rw [List.cons_append, offsF, offsF, offsF_append prot fr l m (k + 1), List.length_cons, show k + 1 + l.length = k + (l.length + 1) by omega]
    simp only [Bool.and_assoc]
theorem offsF_step {prot : Int} {fr : Nat} {l : List Int} {k : Nat} (hk : k < l.length) (h : offsF prot fr 0 (l.take k) = true) :
    offsF prot fr 0 (l.take (k + 1)) = (inR l[k] 0 16384 && (l[k] == 0 || (decide (prot = 3) && fr.testBit k))) := by
  have e : 0 + (l.take k).length = k := by rw [List.length_take]; omega
  rw [List.take_succ_eq_append_getElem hk, offsF_append, h, e, offsF, offsF, Bool.and_true]; rfl
theorem offsF_bad {prot : Int} {fr : Nat} {l : List Int} {k : Nat} (h : offsF prot fr 0 (l.take k) = false) : offsF prot fr 0 l = false := by
  have h0 : l = l.take k ++ l.drop k := (List.take_append_drop k l).symm
  rw [h0, offsF_append, h, Bool.false_and]
theorem edg_offs (e : Edg) (k : Nat) (h : k < e.offs.length) : (edgCells e)[3 + k]? = some (.int .i64 e.offs[k]) := by
  rw [edg_c e (3 + k) (by simp [edgInts]; omega)]
  simp [edgInts, show 3 + k = k + 3 by omega, h]
theorem edg_mp (e : Edg) (k : Nat) (ho : e.offs.length = 16) (h : k < e.mp.length) : (edgCells e)[19 + k]? = some (.int .i64 e.mp[k]) := by
  rw [edg_c e (19 + k) (by simp [edgInts]; omega)]
  simp [edgInts, show 19 + k = (16 + k) + 3 by omega, ho]
theorem edg_offsAt {w : World} {g ty : Nat} {e : Edg} (h : Blk w g ty (edgCells e).toArray) : CellsAt w g 3 (iv e.offs) := by
  intro j u hu
  have hj : j < e.offs.length := by have := (List.getElem?_eq_some_iff.1 hu).1; simpa using this
  rw [iv_get hj] at hu
  exact h.at_ ((edg_offs e j hj).trans hu)
theorem edg_mpAt {w : World} {g ty : Nat} {e : Edg} (ho : e.offs.length = 16) (h : Blk w g ty (edgCells e).toArray) : CellsAt w g 19 (iv e.mp) := by
  intro j u hu
  have hj : j < e.mp.length := by have := (List.getElem?_eq_some_iff.1 hu).1; simpa using this
  rw [iv_get hj] at hu
  exact h.at_ ((edg_mp e j ho hj).trans hu)

set_option maxRecDepth 100000 in
set_option maxHeartbeats 1000000 in
theorem offsets_any (e : Edg) (fr : Nat) (w : World) (hl : e.offs.length = 16) (hfr : fr < 4294967296) :
    Calls Tryd.prog 112 #[.agg (edgCells e).toArray, .int .u32 (fr : Int)] w fun en w' => en = .returned (.bool (offsF e.prot fr 0 e.offs)) ∧ Keep [] w w' := by
  have hb := Blk.new w 45 (edgCells e).toArray
  have K0 := (Keep.refl [] w).alloc (.cells (edgCells e).toArray 45)
  have cl := Lib.hid (edg_offsAt hb)
  have c2 := hb.at_ (edg_c e 2 (by simp [edgInts]))
  simp only [edgInts, List.getElem_cons_zero, List.getElem_cons_succ] at c2
  have HL := Lib.hid hl
  clear hb hl
  generalize (edgCells e).toArray = cs at *
  generalize e.prot = prot at *
  generalize e.offs = l at *
  have hidx := Lib.hid (fun k (hk : k < 16) v hv W => run_index_agg (P := Tryd.prog) (t := 42) (e := 3) (n := 16) (cs := (iv l).toArray) (v := v) Tryd.underlying42 Tryd.underlying3 rfl (by kernel_rfl) k hk hv W)
  have hget : Hid (∀ k, (hk : k < l.length) → (iv l).toArray[k]? = some (.int .i64 l[k])) := fun k hk => by rw [List.getElem?_toArray, iv_get hk]
  go_enter Tryd.func112, Tryd.ntmps112
  go_wp2_with (refine wpList_load_agg rfl 42 (.tmp 7) rfl rfl (cs := iv l) (by rw [List.length_map, HL.out]; exact agg_16) cl.out ?_)
  clear cl
  generalize (iv l).toArray = la at *
  go_loopw [9] (fun i wr => ∃ k : Nat, k ≤ 16 ∧ i = .int .i64 k ∧ offsF prot fr 0 (l.take k) = true ∧ w.alloc (.cells cs 45) = wr) (fun i _ => 16 - (intOf i).toNat)
  case atStart => exact ⟨0, Nat.zero_le _, rfl, rfl, rfl⟩
  case round =>
    obtain ⟨k, hk, rfl, hm, rfl⟩ := hrel
    by_cases hlt : k < 16
    · have hk' : k < l.length := by rw [HL.out]; exact hlt
      have hi := fun W => hidx.out k hlt _ (hget.out k hk') W
      have hst := Lib.hid (offsF_step (prot := prot) (fr := fr) hk' hm)
      have hbd := Lib.hid (offsF_bad (prot := prot) (fr := fr) (l := l) (k := k + 1))
      have hh := Lib.hid (has_testBit fr k (by omega))
      clear hm
      generalize l[k] = n at *
      have hc : (n = 0) ∨ (n < 0) ∨ (0 ≤ n ∧ 16384 < n) ∨ (0 < n ∧ n ≤ 16384 ∧ prot ≠ 3) ∨ (0 < n ∧ n ≤ 16384 ∧ prot = 3) := by omega
      rcases hc with g0 | g0 | ⟨g1, g2⟩ | ⟨g1, g2, g3⟩ | ⟨g1, g2, g3⟩
      · have HS : Hid (offsF prot fr 0 (l.take (k + 1)) = true) := by show _ = _; rw [hst.out, g0]; simp [inR]
        have g1 : 0 ≤ n := by omega
        have g2 : n ≤ 0 := by omega
        clear g0
        go_wp2
        go_roundw
        case rel => exact ⟨k + 1, by omega, by go_num, HS.out, by trivial⟩
        case measure => simp [intOf] <;> omega
      · have HB := Lib.hid (hbd.out (by rw [hst.out]; unfold inR; simp; omega))
        go_wp2
        go_ret
        exact ⟨by rw [HB.out]; rfl, K0⟩
      · have HB := Lib.hid (hbd.out (by rw [hst.out]; unfold inR; simp; omega))
        go_wp2
        go_ret
        exact ⟨by rw [HB.out]; rfl, K0⟩
      · have HB := Lib.hid (hbd.out (by rw [hst.out]; unfold inR; simp; omega))
        have g4 : (prot != 3) = true := by simp [g3]
        have g5 : 0 ≤ n := by omega
        clear g3
        go_wp2
        go_ret
        exact ⟨by rw [HB.out]; rfl, K0⟩
      · have g4 : (prot != 3) = false := by simp [g3]
        have g5 : 0 ≤ n := by omega
        cases hv : fr.testBit k
        · have HV := Lib.hid hv
          have HB := Lib.hid (hbd.out (by rw [hst.out, hv]; unfold inR; simp; omega))
          clear g3 hv
          go_wp2_with fail
          refine (has_any _ _ _ hfr).mono ?_
          rintro e w' ⟨rfl, rfl⟩
          rw [hh.out, HV.out]
          go_wp2
          go_ret
          exact ⟨by rw [HB.out]; rfl, K0⟩
        · have HV := Lib.hid hv
          have HS : Hid (offsF prot fr 0 (l.take (k + 1)) = true) := by show _ = _; rw [hst.out, hv]; unfold inR; simp; omega
          clear g3 hv
          go_wp2_with fail
          refine (has_any _ _ _ hfr).mono ?_
          rintro e w' ⟨rfl, rfl⟩
          rw [hh.out, HV.out]
          go_wp2
          go_roundw
          case rel => exact ⟨k + 1, by omega, by go_num, HS.out, by trivial⟩
          case measure => simp [intOf] <;> omega
    · obtain rfl : k = 16 := by omega
      rw [List.take_of_length_le (by rw [HL.out]; exact Nat.le_refl _)] at hm
      have HB := Lib.hid hm
      clear hm
      go_wp2
      go_ret
      exact ⟨by rw [HB.out]; rfl, K0⟩
end Go.Proofs.YtajlkfhekligeaaDoor
