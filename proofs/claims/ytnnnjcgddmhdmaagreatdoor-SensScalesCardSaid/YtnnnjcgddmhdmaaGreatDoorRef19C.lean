/- The document on changes (layer 19): who may be late, and how long a change takes. Condition: small numbers. -/
import Derived.Test.YtnnnjcgddmhdmaaGreatDoorRef19A
namespace Go.Proofs.YtnnnjcgddmhdmaaGreatDoor
open Go.RowKit

theorem slice_intW : SliceOf Tryz.prog 115 3 1 8 := ⟨Tryz.underlying115, by kernel_rfl, by decide⟩
def natsV (l : List Nat) : List Value := l.map (fun (n : Nat) => Value.int .i64 (n : Int))
theorem natsV_len (l : List Nat) : (natsV l).length = l.length := by simp [natsV]
/-- A row of numbers of the call's own is returned. -/
def RetNats (w : World) (l : List Nat) (e : Ending) (w' : World) : Prop :=
  ∃ A c, e = .returned (.slice A l.length c) ∧ w'.ownsRow w.heap.size 3 1 (.slice A l.length c) l.length (natsV l) ∧ Keep [] w w'
theorem lateRL_succ (x : Img) (f t : Nat) (L : List Int) (n : Nat) : lateRL x f t L (n + 1) = lateRL x f t L n ++ (if lateR x f t L n = true then [n] else []) := by
  unfold lateRL
  rw [List.range_succ, List.filter_append]
  cases h : lateR x f t L n <;> simp [h]
theorem lateRL_le (x : Img) (f t : Nat) (L : List Int) (n : Nat) : (lateRL x f t L n).length ≤ n := by
  have := List.length_filter_le (lateR x f t L) (List.range n)
  simpa [lateRL] using this
set_option maxRecDepth 100000 in
set_option maxHeartbeats 3000000 in
theorem rlate_any (v : ImgV) (x : Img) (k f t : Nat) (L : List Int) (w : World) (h : ImgAt w v x) (he : EdgeIn x k f t) (hx : Small x) (hL : OffOk L) :
    Calls Tryz.prog 58 #[.agg (imgCells v x).toArray, .int .i64 (k : Int), .agg (iv L).toArray] w (RetNats w (lateRL x f t L x.tasks.length)) := by
  have hn := hx.n
  obtain ⟨W0, hW0⟩ : ∃ W0, (w.alloc (.cells (imgCells v x).toArray 26)).alloc (.cells (iv L).toArray 47) = W0 := ⟨_, rfl⟩
  have b0 : Blk W0 w.heap.size 26 (imgCells v x).toArray := by rw [← hW0]; exact (img_box w v x).alloc _
  have b1 : Blk W0 (w.heap.size + 1) 47 (iv L).toArray := by rw [← hW0]; exact Blk.new1 _ _ _ _
  have K0 : Keep [] w W0 := by rw [← hW0]; exact ((Keep.refl [] w).alloc _).alloc _
  have HSe := Lib.hid (sets_any v x k f t W0 (h.keep0 K0) he)
  have hft := he.t_lt h.ok
  have hff := he.f_lt h.ok
  have hor : f ||| t < 4294967296 := Nat.or_lt_two_pow (n := 32) hff hft
  have hor2 : bits .or .u32 (f : Int) (t : Int) = ((f ||| t : Nat) : Int) := u32_or_nat f t hff hft
  have HC0 : Hid (∀ w', Keep [] W0 w' → CellsAt w' w.heap.size 0 (imgCells v x)) := fun w' hk => (b0.keep0 hk).cellsAt
  have HC1 : Hid (∀ w', Keep [] W0 w' → CellsAt w' (w.heap.size + 1) 0 (iv L)) := fun w' hk => (b1.keep0 hk).cellsAt
  have HI1 : Hid (∀ w', Keep [] W0 w' → w'.cell? ⟨w.heap.size, 1, none⟩ = some (.slice v.ta x.tasks.length v.tc)) := fun w' hk => img_c1 (b0.keep0 hk)
  have HIC : Hid ((imgCells v x).length = 4) := show _ = _ from rfl
  have HOC : Hid ((iv L).length = 16) := by show _ = _; rw [iv_len]; exact hL.1
  have HHo := fun (j : Int) w => Lib.hid (has10_any (f ||| t) j w hor)
  have HHt := fun (j : Int) w => Lib.hid (has10_any t j w hft)
  have HWi := fun (j : Nat) (hj : j < x.tasks.length) w' hk' => Lib.hid (rwin_any v x k f t L j w' (h.keep0 (K0.then hk')) he hx hL hj)
  have HBe := fun (j : Nat) (hj : j < x.tasks.length) w' hk' => Lib.hid (rbeh_any v x k f t j w' (h.keep0 (K0.then hk')) he hx hj)
  have HW := Lib.hid hW0
  have HN := Lib.hid hn
  have hz0 : w.heap.size ≤ W0.heap.size := K0.size
  clear hW0 b0 b1 h he hx hff hft hL
  generalize imgCells v x = il at *
  generalize iv L = lc at *
  go_enter Tryz.func58, Tryz.ntmps58
  go_wp2_with (first
    | rw [HW.out]
    | (refine wpList_load_agg rfl 26 (.tmp 3) rfl rfl (cs := il) (by rw [HIC.out]; exact agg_image) (HC0.out _ (Keep.refl _ _)) ?_)
    | (refine HSe.out.mono ?_; rintro e w1 ⟨rfl, k1⟩))
  have K1 := Lib.hid (K0.then k1)
  have HK1 := Lib.hid k1
  have hz1 : w.heap.size ≤ w1.heap.size := K1.out.size
  clear k1 K0 HSe
  go_loopw [9, 10] (fun o j wr => ∃ m : Nat, m ≤ x.tasks.length ∧ j = .int .i64 m ∧ wr.ownsRow w1.heap.size 3 1 o (lateRL x f t L m).length (natsV (lateRL x f t L m)) ∧ Keep [] w1 wr) (fun _ j _ => x.tasks.length - (intOf j).toNat)
  case atStart => exact ⟨0, Nat.zero_le _, rfl, World.ownsRow_nil _ _ _ _, Keep.refl _ _⟩
  case round =>
    obtain ⟨m, hm, rfl, hrow, hK⟩ := hrel
    have c1 := HI1.out wr (HK1.out.then hK)
    have hkl := lateRL_le x f t L m
    have hn := HN.out
    have hK0 := HK1.out.then hK
    have HK := Lib.hid hK
    have HR := Lib.hid hrow
    by_cases hlt : m < x.tasks.length
    · have p1 : (m : Int) < (x.tasks.length : Int) := by omega
      have p2 : decide ((m : Int) < (x.tasks.length : Int)) = true := by simp; omega
      have hcA := Lib.hid (HC0.out wr hK0)
      have hcB := Lib.hid (HC1.out wr hK0)
      have HA := fun w' (hk : Keep [] wr w') => HC0.out w' (hK0.then hk)
      have HWm := HWi m hlt wr hK0
      have HBm := fun w' (hk : Keep [] wr w') => HBe m hlt w' (hK0.then hk)
      have HHo := HHo (m : Int)
      have HHt := HHt (m : Int)
      have hst := lateRL_succ x f t L m
      unfold lateR at hst
      rw [numRes_eq (winR x f t L m)] at HWm
      rw [show (winR x f t L m).isNone = !(winR x f t L m).isSome by cases winR x f t L m <;> rfl, show (behR x f t m).isNone = !(behR x f t m).isSome by cases behR x f t m <;> rfl] at hst
      have HBm2 : ∀ w' (hk : Keep [] wr w'), Hid (Calls Tryz.prog 60 #[.agg il.toArray, .int .i64 (k : Int), .int .i64 (m : Int)] w' fun e w'' => e = .returned (.tuple #[.int .i64 ((behR x f t m).getD 0), .bool (behR x f t m).isSome]) ∧ Keep [] w' w'') := fun w' hk => by
        have := HBm w' hk
        rw [numRes_eq (behR x f t m)] at this
        exact this
      clear HBm hK hrow hK0 HC0 HC1 HWi HBe
      generalize (winR x f t L m).getD 0 = n1 at *
      generalize (winR x f t L m).isSome = s1 at *
      generalize (behR x f t m).getD 0 = n2 at *
      generalize (behR x f t m).isSome = s2 at *
      generalize has10 (f ||| t) (m : Int) = ho at *
      generalize has10 t (m : Int) = ht at *
      have HST := Lib.hid hst
      clear hst
      cases hq : (ho && (!s1 || (ht && !s2))) with
      | false =>
        have HX : Hid (lateRL x f t L (m + 1) = lateRL x f t L m) := by show _ = _; rw [HST.out, hq]; simp
        clear HST
        have hcase : ho = false ∨ (ho = true ∧ s1 = true ∧ ht = false) ∨ (ho = true ∧ s1 = true ∧ ht = true ∧ s2 = true) := by revert hq; cases ho <;> cases s1 <;> cases ht <;> cases s2 <;> simp
        clear hq
        rcases hcase with rfl | ⟨rfl, rfl, rfl⟩ | ⟨rfl, rfl, rfl, rfl⟩
        all_goals
          go_wp2_with (first
            | (refine wpList_load_agg rfl 26 (.tmp 3) rfl rfl (cs := il) (by rw [HIC.out]; exact agg_image) hcA.out ?_)
            | (refine wpList_load_agg rfl 47 (.tmp 5) rfl rfl (cs := lc) (by rw [HOC.out]; exact agg_offs) hcB.out ?_))
          refine HWm.out.mono ?_
          rintro e w5 ⟨rfl, k5⟩
          have hcA5 := Lib.hid (HA w5 k5)
          have HBm := HBm2 w5 k5
          clear HBm2 HWm hcA hcB HA
          go_wp2_with (refine wpList_load_agg rfl 26 (.tmp 3) rfl rfl (cs := il) (by rw [HIC.out]; exact agg_image) hcA5.out ?_)
          refine HBm.out.mono ?_
          rintro e w6 ⟨rfl, k6⟩
          have HK6 := Lib.hid (HK.out.then (k5.then k6))
          have HR6 := Lib.hid (own_keep0 HR.out (k5.then k6))
          clear k5 k6 HBm
          go_wp2_with fail
          refine (HHo _).out.mono ?_
          rintro e w7 ⟨rfl, rfl⟩
          go_wp2_with (refine (HHt _).out.mono ?_; rintro e w7 ⟨rfl, rfl⟩)
          go_roundw
          case rel => exact ⟨m + 1, by omega, by go_num, by rw [HX.out]; exact HR6.out, HK6.out⟩
          case measure => simp [intOf] <;> omega
      | true =>
        have HX : Hid (lateRL x f t L (m + 1) = lateRL x f t L m ++ [m]) := by show _ = _; rw [HST.out, hq, if_pos rfl]
        clear HST
        have hcase : (ho = true ∧ s1 = false) ∨ (ho = true ∧ s1 = true ∧ ht = true ∧ s2 = false) := by revert hq; cases ho <;> cases s1 <;> cases ht <;> cases s2 <;> simp
        clear hq
        rcases hcase with ⟨rfl, rfl⟩ | ⟨rfl, rfl, rfl, rfl⟩
        all_goals
          go_wp2_with (first
            | (refine wpList_load_agg rfl 26 (.tmp 3) rfl rfl (cs := il) (by rw [HIC.out]; exact agg_image) hcA.out ?_)
            | (refine wpList_load_agg rfl 47 (.tmp 5) rfl rfl (cs := lc) (by rw [HOC.out]; exact agg_offs) hcB.out ?_))
          refine HWm.out.mono ?_
          rintro e w5 ⟨rfl, k5⟩
          have hcA5 := Lib.hid (HA w5 k5)
          have HBm := HBm2 w5 k5
          clear HBm2 HWm hcA hcB HA
          go_wp2_with (refine wpList_load_agg rfl 26 (.tmp 3) rfl rfl (cs := il) (by rw [HIC.out]; exact agg_image) hcA5.out ?_)
          refine HBm.out.mono ?_
          rintro e w6 ⟨rfl, k6⟩
          have HK6 := Lib.hid (HK.out.then (k5.then k6))
          have HR6 := Lib.hid (own_keep0 HR.out (k5.then k6))
          clear k5 k6 HBm
          go_wp2_with fail
          refine (HHo _).out.mono ?_
          rintro e w7 ⟨rfl, rfl⟩
          have hB6 : w1.heap.size ≤ w6.heap.size := HK6.out.size
          go_wp2_with (first
            | (refine (HHt _).out.mono ?_; rintro e w7 ⟨rfl, rfl⟩)
            | (at_builtin; refine wpList_append_one rfl (.tmp 61) (.tmp 63) 115 rfl slice_intW HR6.out rfl rfl (us := [.int .i64 (m : Int)]) rfl (by simp [Value.oneCell']) hB6 (by omega) (by unfold maxLen; omega) ?_; intro v' w8 hown1 hgrow1 hat1))
          have hlt' := fun z hz => (HR6.out.lt z (by simpa using hz)).1
          have K8 := Lib.hid (HK6.out.trans hgrow1 (fun y hy hlt => by have := hlt' y (by simpa using hy); omega))
          have O8 : Hid (w8.ownsRow w1.heap.size 3 1 v' (lateRL x f t L (m + 1)).length (natsV (lateRL x f t L (m + 1)))) := by
            show World.ownsRow _ _ _ _ _ _ _
            rw [HX.out, List.length_append, natsV, List.map_append]
            exact hown1
          clear hown1 hgrow1 hat1
          go_roundw
          case rel => exact ⟨m + 1, by omega, by go_num, O8.out, K8.out⟩
          case measure => simp [intOf] <;> omega
    · obtain rfl : m = x.tasks.length := by omega
      obtain ⟨A, cc, rfl⟩ := own_shape hrow
      have p2 : decide ((x.tasks.length : Int) < (x.tasks.length : Int)) = false := by simp
      clear hK0
      generalize lateRL x f t L x.tasks.length = ll at *
      go_wp2
      go_ret
      exact ⟨A, cc, rfl, own_base hrow hz1, K1.out.then HK.out⟩

def tripRes (o : Option (Int × Int)) : Value := .tuple #[.int .i64 (o.getD (0, 0)).1, .int .i64 (o.getD (0, 0)).2, .bool o.isSome]
theorem spanRI_succ (x : Img) (f t : Nat) (L : List Int) (n : Nat) : spanRI x f t L (n + 1) = stepR x f t L (spanRI x f t L n) n := by
  unfold spanRI
  rw [List.range_succ, List.foldl_append]; rfl
set_option maxRecDepth 100000 in
set_option maxHeartbeats 3000000 in
theorem rspan_any (v : ImgV) (x : Img) (k f t : Nat) (L : List Int) (w : World) (h : ImgAt w v x) (he : EdgeIn x k f t) (hx : Small x) (hL : OffOk L) :
    Calls Tryz.prog 39 #[.agg (imgCells v x).toArray, .int .i64 (k : Int), .agg (iv L).toArray] w fun e w' => e = .returned (tripRes (spanR x f t L)) ∧ Keep [] w w' := by
  have hn := hx.n
  obtain ⟨W0, hW0⟩ : ∃ W0, (w.alloc (.cells (imgCells v x).toArray 26)).alloc (.cells (iv L).toArray 47) = W0 := ⟨_, rfl⟩
  have b0 : Blk W0 w.heap.size 26 (imgCells v x).toArray := by rw [← hW0]; exact (img_box w v x).alloc _
  have b1 : Blk W0 (w.heap.size + 1) 47 (iv L).toArray := by rw [← hW0]; exact Blk.new1 _ _ _ _
  have K0 : Keep [] w W0 := by rw [← hW0]; exact ((Keep.refl [] w).alloc _).alloc _
  have HLa := Lib.hid (rlate_any v x k f t L W0 (h.keep0 K0) he hx hL)
  have HC0 : Hid (∀ w', Keep [] W0 w' → CellsAt w' w.heap.size 0 (imgCells v x)) := fun w' hk => (b0.keep0 hk).cellsAt
  have HC1 : Hid (∀ w', Keep [] W0 w' → CellsAt w' (w.heap.size + 1) 0 (iv L)) := fun w' hk => (b1.keep0 hk).cellsAt
  have HI1 : Hid (∀ w', Keep [] W0 w' → w'.cell? ⟨w.heap.size, 1, none⟩ = some (.slice v.ta x.tasks.length v.tc)) := fun w' hk => img_c1 (b0.keep0 hk)
  have HIC : Hid ((imgCells v x).length = 4) := show _ = _ from rfl
  have HOC : Hid ((iv L).length = 16) := by show _ = _; rw [iv_len]; exact hL.1
  have HWi := fun (j : Nat) (hj : j < x.tasks.length) w' hk' => Lib.hid (rwin_any v x k f t L j w' (h.keep0 (K0.then hk')) he hx hL hj)
  have HBe := fun (j : Nat) (hj : j < x.tasks.length) w' hk' => Lib.hid (rbeh_any v x k f t j w' (h.keep0 (K0.then hk')) he hx hj)
  have HOf := fun (j : Nat) (hj : j < 16) w' hk' => Lib.hid (roff_any v x k f t L j w' (h.keep0 (K0.then hk')) he hL.1 hj)
  have HSP : Hid (spanR x f t L = if lateRL x f t L x.tasks.length = [] then some (greatM (spanRI x f t L x.tasks.length).1 (spanRI x f t L x.tasks.length).2, (spanRI x f t L x.tasks.length).1) else none) := show _ = _ from rfl
  have HW := Lib.hid hW0
  have HN := Lib.hid hn
  have hll := lateRL_le x f t L x.tasks.length
  clear hW0 b0 b1 h he hx hL
  generalize imgCells v x = il at *
  generalize iv L = lc at *
  cases hlz : lateRL x f t L x.tasks.length with
  | cons a r =>
    have HX : Hid (tripRes (spanR x f t L) = .tuple #[.int .i64 0, .int .i64 0, .bool false]) := by show _ = _; rw [HSP.out, hlz, if_neg (by simp)]; rfl
    rw [hlz] at HLa hll
    obtain ⟨q, hq⟩ : ∃ q : Nat, (a :: r).length = q + 1 := ⟨r.length, rfl⟩
    have HQ := Lib.hid hq
    clear hq
    generalize a :: r = ar at *
    have hcc : decide (0 < (q : Int) + 1) = true := decide_eq_true (by omega)
    have hcd : (0 : Int) < (q : Int) + 1 := by omega
    go_enter Tryz.func39, Tryz.ntmps39
    go_wp2_with (first
      | rw [HW.out]
      | (refine wpList_load_agg rfl 26 (.tmp 3) rfl rfl (cs := il) (by rw [HIC.out]; exact agg_image) (HC0.out _ (Keep.refl _ _)) ?_)
      | (refine wpList_load_agg rfl 47 (.tmp 5) rfl rfl (cs := lc) (by rw [HOC.out]; exact agg_offs) (HC1.out _ (Keep.refl _ _)) ?_)
      | (refine HLa.out.mono ?_; rintro e w1 ⟨A1, c1, rfl, _, k1⟩; rw [HQ.out]))
    go_ret3
    exact ⟨by rw [HX.out]; rfl, K0.then k1⟩
  | nil =>
    rw [hlz] at HLa
    have HX : Hid (tripRes (spanR x f t L) = .tuple #[.int .i64 (greatM (spanRI x f t L x.tasks.length).1 (spanRI x f t L x.tasks.length).2), .int .i64 (spanRI x f t L x.tasks.length).1, .bool true]) := by show _ = _; rw [HSP.out, hlz, if_pos rfl]; rfl
    go_enter Tryz.func39, Tryz.ntmps39
    go_wp2_with (first
      | rw [HW.out]
      | (refine wpList_load_agg rfl 26 (.tmp 3) rfl rfl (cs := il) (by rw [HIC.out]; exact agg_image) (HC0.out _ (Keep.refl _ _)) ?_)
      | (refine wpList_load_agg rfl 47 (.tmp 5) rfl rfl (cs := lc) (by rw [HOC.out]; exact agg_offs) (HC1.out _ (Keep.refl _ _)) ?_)
      | (refine HLa.out.mono ?_; rintro e w1 ⟨A1, c1, rfl, _, k1⟩))
    have K1 := Lib.hid (K0.then k1)
    have HK1 := Lib.hid k1
    clear k1 K0 HLa
    go_loopw [9, 10, 11] (fun a b j wr => ∃ m : Nat, m ≤ x.tasks.length ∧ j = .int .i64 m ∧ a = .int .i64 (spanRI x f t L m).1 ∧ b = .int .i64 (spanRI x f t L m).2 ∧ Keep [] w1 wr) (fun _ _ j _ => x.tasks.length - (intOf j).toNat)
    case atStart => exact ⟨0, Nat.zero_le _, rfl, rfl, rfl, Keep.refl _ _⟩
    case round =>
      obtain ⟨m, hm, rfl, rfl, rfl, hK⟩ := hrel
      have ct := HI1.out wr (HK1.out.then hK)
      have hn := HN.out
      have hK0 := HK1.out.then hK
      have HK := Lib.hid hK
      by_cases hlt : m < x.tasks.length
      · have p1 : (m : Int) < (x.tasks.length : Int) := by omega
        have p2 : decide ((m : Int) < (x.tasks.length : Int)) = true := by simp; omega
        have hcA := Lib.hid (HC0.out wr hK0)
        have hcB := Lib.hid (HC1.out wr hK0)
        have HA := fun w' (hk : Keep [] wr w') => HC0.out w' (hK0.then hk)
        have HB := fun w' (hk : Keep [] wr w') => HC1.out w' (hK0.then hk)
        have HWm := HWi m hlt wr hK0
        have HBm := fun w' (hk : Keep [] wr w') => HBe m hlt w' (hK0.then hk)
        have HOm := fun w' (hk : Keep [] wr w') => HOf m (by omega) w' (hK0.then hk)
        have hst := spanRI_succ x f t L m
        rw [numRes_eq (winR x f t L m)] at HWm
        have HBm2 : ∀ w' (hk : Keep [] wr w'), Hid (Calls Tryz.prog 60 #[.agg il.toArray, .int .i64 (k : Int), .int .i64 (m : Int)] w' fun e w'' => e = .returned (.tuple #[.int .i64 ((behR x f t m).getD 0), .bool (behR x f t m).isSome]) ∧ Keep [] w' w'') := fun w' hk => by
          have := HBm w' hk
          rw [numRes_eq (behR x f t m)] at this
          exact this
        have HS1 : Hid ((spanRI x f t L (m + 1)).1 = greatM (spanRI x f t L m).1 (greatM ((winR x f t L m).getD 0) ((behR x f t m).getD 0))) := by show _ = _; rw [hst]; rfl
        have HS2 : Hid ((spanRI x f t L (m + 1)).2 = greatM (spanRI x f t L m).2 (offR f t L (m : Int))) := by show _ = _; rw [hst]; rfl
        clear HBm hst hK hK0 HC0 HC1 HWi HBe HOf
        generalize (winR x f t L m).getD 0 = n1 at *
        generalize (winR x f t L m).isSome = s1 at *
        generalize (behR x f t m).getD 0 = n2 at *
        generalize (behR x f t m).isSome = s2 at *
        generalize offR f t L (m : Int) = n3 at *
        generalize (spanRI x f t L m).1 = q1 at *
        generalize (spanRI x f t L m).2 = q2 at *
        go_wp2_with (first
          | (refine wpList_load_agg rfl 26 (.tmp 3) rfl rfl (cs := il) (by rw [HIC.out]; exact agg_image) hcA.out ?_)
          | (refine wpList_load_agg rfl 47 (.tmp 5) rfl rfl (cs := lc) (by rw [HOC.out]; exact agg_offs) hcB.out ?_)
          | (refine HWm.out.mono ?_; rintro e w5 ⟨rfl, k5⟩; replace hcA := Lib.hid (HA w5 k5); have HBm := HBm2 w5 k5)
          | (refine HBm.out.mono ?_; rintro e w6 ⟨rfl, k6⟩; replace hcA := Lib.hid (HA w6 (k5.then k6)); replace hcB := Lib.hid (HB w6 (k5.then k6)); have HOo := HOm w6 (k5.then k6); have HK6 := Lib.hid (HK.out.then (k5.then k6)))
          | (refine (greater_any n1 n2 _).mono ?_; rintro e w7 ⟨rfl, rfl⟩)
          | (refine (greater_any q1 (greatM n1 n2) _).mono ?_; rintro e w7 ⟨rfl, rfl⟩)
          | (refine HOo.out.mono ?_; rintro e w8 ⟨rfl, k8⟩)
          | (refine (greater_any q2 n3 _).mono ?_; rintro e w7 ⟨rfl, rfl⟩))
        go_roundw
        case rel => exact ⟨m + 1, by omega, by go_num, by rw [HS1.out], by rw [HS2.out], HK6.out.then k8⟩
        case measure => simp [intOf] <;> omega
      · obtain rfl : m = x.tasks.length := by omega
        have p2 : decide ((x.tasks.length : Int) < (x.tasks.length : Int)) = false := by simp
        clear hK0
        generalize (spanRI x f t L x.tasks.length).1 = q1 at *
        generalize (spanRI x f t L x.tasks.length).2 = q2 at *
        go_wp2_with (refine (greater_any q1 q2 _).mono ?_; rintro e w7 ⟨rfl, rfl⟩)
        go_ret3
        exact ⟨by rw [HX.out]; rfl, K1.out.then HK.out⟩
end Go.Proofs.YtnnnjcgddmhdmaaGreatDoor
