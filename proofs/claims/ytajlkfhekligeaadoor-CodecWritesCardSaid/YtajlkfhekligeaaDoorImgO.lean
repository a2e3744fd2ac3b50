/- May queues become others, may new tasks come from these offsets on: the program's own tests. -/
import Derived.Test.YtajlkfhekligeaaDoorImgT
namespace Go.Proofs.YtajlkfhekligeaaDoor
open Go.RowKit

theorem has_testBit (s k : Nat) (hk : k < 32) : decide (s &&& bitN (k : Int) ≠ 0) = s.testBit k := by
  rw [bitN_nat hk, Bool.eq_iff_iff, decide_eq_true_eq]
  constructor
  · intro h
    rw [← Bool.not_eq_false]
    intro hb
    apply h
    apply Nat.eq_of_testBit_eq
    intro i
    rw [Nat.testBit_and, Nat.testBit_two_pow, Nat.zero_testBit]
    by_cases e : k = i
    · subst e; simp [hb]
    · simp [e]
  · intro h e
    have := congrArg (fun x => x.testBit k) e
    simp [Nat.testBit_and, h] at this
/-- The set of a row of numbers. -/
def maskOf : List Int → Nat
  | [] => 0
  | n :: l => maskOf l ||| bitN n
theorem maskOf_lt : ∀ l, maskOf l < 4294967296
  | [] => by decide
  | n :: l => Nat.or_lt_two_pow (n := 32) (maskOf_lt l) (bitN_lt n)
theorem maskOf_has (l : List Int) (h : ∀ n ∈ l, 0 ≤ n ∧ n ≤ 31) (k : Nat) (_hk : k < 32) : (maskOf l).testBit k = l.contains (k : Int) := by
  induction l with
  | nil => simp [maskOf]
  | cons n l ih =>
    obtain ⟨h1, h2⟩ := h n (by simp)
    obtain ⟨j, rfl⟩ : ∃ j : Nat, n = (j : Int) := ⟨n.toNat, by omega⟩
    rw [maskOf, Nat.testBit_or, ih (fun m hm => h m (by simp [hm])), bitN_nat (by omega), Nat.testBit_two_pow, List.contains_cons, Bool.or_comm]
    congr 1
    rw [Bool.eq_iff_iff]
    simp
    omega
def seenOf (l : List Int) : List Int := l.foldl (fun s n => if n = 0 then s else n :: s) []
theorem seenOf_snoc (l : List Int) (n : Int) : seenOf (l ++ [n]) = if n = 0 then seenOf l else n :: seenOf l := by unfold seenOf; rw [List.foldl_append]; rfl
theorem mapsOk_step {frm to : Nat} {l : List Int} {k : Nat} (hk : k < l.length) (h : mapsOk frm to 0 [] (l.take k) = true) :
    mapsOk frm to 0 [] (l.take (k + 1)) = (inR l[k] 0 to && (l[k] == 0 || (decide (k < frm) && !(seenOf (l.take k)).contains l[k]))) := by
  have e : 0 + (l.take k).length = k := by rw [List.length_take]; omega
  rw [List.take_succ_eq_append_getElem hk, mapsOk_append, h, e, mapsOk, mapsOk, Bool.and_true]; rfl
theorem mapsOk_bad {frm to : Nat} {l : List Int} {k : Nat} (h : mapsOk frm to 0 [] (l.take k) = false) : mapsOk frm to 0 [] l = false := by
  have h0 : l = l.take k ++ l.drop k := (List.take_append_drop k l).symm
  rw [h0, mapsOk_append, h, Bool.false_and]
/-- What has been seen lies in bounds. -/
theorem mapsOk_seen (frm to : Nat) : ∀ (l : List Int) (k : Nat) (s : List Int), mapsOk frm to k s l = true → (∀ n ∈ s, 0 ≤ n ∧ n ≤ to) → ∀ n ∈ l.foldl (fun s n => if n = 0 then s else n :: s) s, 0 ≤ n ∧ n ≤ to
  | [], _, s, _, hs => hs
  | m :: l, k, s, h, hs => by
    rw [mapsOk] at h
    simp only [Bool.and_eq_true] at h
    rw [List.foldl_cons]
    refine mapsOk_seen frm to l (k + 1) _ h.2 ?_
    have := h.1.1
    unfold inR at this
    split
    · exact hs
    · intro n hn
      rcases List.mem_cons.1 hn with rfl | hn
      · simpa using this
      · exact hs n hn
theorem agg_4 : AggOf Tryd.prog 43 4 := ⟨by kernel_rfl, by kernel_rfl⟩
theorem agg_16 : AggOf Tryd.prog 42 16 := ⟨by kernel_rfl, by kernel_rfl⟩

set_option maxRecDepth 100000 in
set_option maxHeartbeats 1000000 in
theorem maps_any (l : List Int) (frm to : Nat) (w : World) (hl : l.length = 4) (hto : to ≤ 31) :
    Calls Tryd.prog 111 #[.agg (iv l).toArray, .int .i64 (frm : Int), .int .i64 (to : Int)] w fun e w' => e = .returned (.bool (mapsOk frm to 0 [] l)) ∧ Keep [] w w' := by
  have hb := Blk.new w 43 (iv l).toArray
  have K0 := (Keep.refl [] w).alloc (.cells (iv l).toArray 43)
  have cl := Lib.hid hb.cellsAt
  have HL4 := Lib.hid hl
  have hidx := Lib.hid (fun k (hk : k < 4) v hv W => run_index_agg (P := Tryd.prog) (t := 43) (e := 3) (n := 4) (cs := (iv l).toArray) (v := v) Tryd.underlying43 Tryd.underlying3 rfl (by kernel_rfl) k hk hv W)
  have hget : Hid (∀ k, (hk : k < l.length) → (iv l).toArray[k]? = some (.int .i64 l[k])) := fun k hk => by rw [List.getElem?_toArray, iv_get hk]
  clear hb hl
  obtain ⟨ll, hll⟩ : ∃ ll, ll = iv l := ⟨_, rfl⟩
  have HLL : Hid (ll.length = 4) := by show _ = _; rw [hll, List.length_map, HL4.out]
  rw [← hll] at cl hidx hget K0 ⊢
  clear hll
  go_enter Tryd.func111, Tryd.ntmps111
  go_wp2_with (refine wpList_load_agg rfl 43 (.tmp 3) rfl rfl (cs := ll) (by rw [HLL.out]; exact agg_4) cl.out ?_)
  clear cl
  generalize ll.toArray = la at *
  go_loopw [7, 11] (fun s i wr => ∃ k : Nat, k ≤ 4 ∧ i = .int .i64 k ∧ mapsOk frm to 0 [] (l.take k) = true ∧ s = .int .u32 (maskOf (seenOf (l.take k)) : Int) ∧ w.alloc (.cells la 43) = wr) (fun _ i _ => 4 - (intOf i).toNat)
  case atStart => exact ⟨0, Nat.zero_le _, rfl, rfl, rfl, rfl⟩
  case round =>
    obtain ⟨k, hk, rfl, hm, rfl, rfl⟩ := hrel
    have hse : Hid (∀ n ∈ seenOf (l.take k), 0 ≤ n ∧ n ≤ 31) := fun n hn => by
      have := mapsOk_seen frm to (l.take k) 0 [] hm (by simp) n hn
      omega
    by_cases hlt : k < 4
    · have hk' : k < l.length := by rw [HL4.out]; exact hlt
      have hi := fun W => hidx.out k hlt _ (hget.out k hk') W
      have hst := Lib.hid (mapsOk_step (frm := frm) (to := to) hk' hm)
      have hbd := Lib.hid (mapsOk_bad (frm := frm) (to := to) (l := l) (k := k + 1))
      have hsn : Hid (seenOf (l.take (k + 1)) = if l[k] = 0 then seenOf (l.take k) else l[k] :: seenOf (l.take k)) := by
        show _ = _; rw [List.take_succ_eq_append_getElem hk', seenOf_snoc]
      have hms := maskOf_lt (seenOf (l.take k))
      clear hm
      generalize l[k] = n at *
      generalize seenOf (l.take k) = sn at *
      have hc : (n = 0) ∨ (n ≠ 0 ∧ n < 0) ∨ (n ≠ 0 ∧ 0 ≤ n ∧ (to : Int) < n) ∨ (n ≠ 0 ∧ 0 ≤ n ∧ n ≤ to ∧ (frm : Int) ≤ k) ∨ (n ≠ 0 ∧ 0 ≤ n ∧ n ≤ to ∧ (k : Int) < frm) := by omega
      rcases hc with g0 | ⟨g0, g1⟩ | ⟨g0, g1, g2⟩ | ⟨g0, g1, g2, g3⟩ | ⟨g0, g1, g2, g3⟩
      · have g5 : (n == 0) = true := by simp [g0]
        have HS : Hid (mapsOk frm to 0 [] (l.take (k + 1)) = true) := by show _ = _; rw [hst.out, g0]; simp [inR]
        have HN : Hid (seenOf (l.take (k + 1)) = sn) := by show _ = _; rw [hsn.out, if_pos g0]
        clear g0
        go_wp2
        go_roundw
        case rel => exact ⟨k + 1, by omega, by go_num, HS.out, by rw [HN.out], by trivial⟩
        case measure => simp [intOf] <;> omega
      · have g5 : (n == 0) = false := by simp [g0]
        have HB := Lib.hid (hbd.out (by rw [hst.out]; unfold inR; simp; omega))
        clear g0
        go_wp2
        go_ret
        exact ⟨by rw [HB.out]; rfl, K0⟩
      · have g5 : (n == 0) = false := by simp [g0]
        have HB := Lib.hid (hbd.out (by rw [hst.out]; unfold inR; simp; omega))
        clear g0
        go_wp2
        go_ret
        exact ⟨by rw [HB.out]; rfl, K0⟩
      · have g5 : (n == 0) = false := by simp [g0]
        have g6 : frm ≤ k := by omega
        have HB := Lib.hid (hbd.out (by rw [hst.out]; unfold inR; simp; omega))
        clear g0
        go_wp2
        go_ret
        exact ⟨by rw [HB.out]; rfl, K0⟩
      · obtain ⟨j, rfl⟩ : ∃ j : Nat, n = (j : Int) := ⟨n.toNat, by omega⟩
        have g5 : ((j : Int) == 0) = false := by simp; omega
        have g6 : k < frm := by omega
        have hh := has_testBit (maskOf sn) j (by omega)
        rw [maskOf_has sn hse.out j (by omega)] at hh
        have HH := Lib.hid hh
        cases hv : sn.contains (j : Int)
        · have HV := Lib.hid hv
          have HS : Hid (mapsOk frm to 0 [] (l.take (k + 1)) = true) := by show _ = _; rw [hst.out, hv]; unfold inR; simp; omega
          have HN : Hid (seenOf (l.take (k + 1)) = (j : Int) :: sn) := by show _ = _; rw [hsn.out, if_neg g0]
          clear hh hv g0
          go_wp2_with fail
          refine (has_any _ _ _ hms).mono ?_
          rintro e w' ⟨rfl, rfl⟩
          rw [HH.out, HV.out]
          go_wp2_with fail
          refine (with_any _ _ _ hms).mono ?_
          rintro e w' ⟨rfl, rfl⟩
          go_wp2
          go_roundw
          case rel => exact ⟨k + 1, by omega, by go_num, HS.out, by rw [HN.out]; rfl, by trivial⟩
          case measure => simp [intOf] <;> omega
        · have HV := Lib.hid hv
          have HB := Lib.hid (hbd.out (by rw [hst.out, hv]; simp; omega))
          clear hh hv g0
          go_wp2_with fail
          refine (has_any _ _ _ hms).mono ?_
          rintro e w' ⟨rfl, rfl⟩
          rw [HH.out, HV.out]
          go_wp2
          go_ret
          exact ⟨by rw [HB.out]; rfl, K0⟩
    · obtain rfl : k = 4 := by omega
      rw [List.take_of_length_le (by rw [HL4.out]; exact Nat.le_refl _)] at hm
      have HB := Lib.hid hm
      clear hm
      go_wp2
      go_ret
      exact ⟨by rw [HB.out]; rfl, K0⟩
end Go.Proofs.YtajlkfhekligeaaDoor
