/- May queues become others, may new tasks come from these offsets on: the program's own tests. What image.Edge answers; may a task be, may queues be (the program's own). May new tasks come from these offsets on; may an edge be: the program's own tests. May queues be: the program's own test and the document's; is a task in a set. -/
import Derived.Test.YteflgdnekflbbaaDoorImgT
namespace Go.Proofs.YteflgdnekflbbaaDoor
open Go.RowKit

theorem has_testBit (s k : Nat) (hk : k < 32) : decide (s &&& bitN (k : Int) ≠ 0) = s.testBit k := by
  rw [bitN_nat hk, Bool.eq_iff_iff, decide_eq_true_eq]
  constructor
  · intro h
    rw [← Bool.not_eq_false]
    intro hb
    apply h
    apply Nat.eq_of_testBit_eq
    intro i
    rw [Nat.testBit_and, Nat.testBit_two_pow, Nat.zero_testBit]
    by_cases e : k = i
    · subst e; simp [hb]
    · simp [e]
  · intro h e
    have := congrArg (fun x => x.testBit k) e
    simp [Nat.testBit_and, h] at this
/-- The set of a row of numbers. -/
def maskOf : List Int → Nat
  | [] => 0
  | n :: l => maskOf l ||| bitN n
theorem maskOf_lt : ∀ l, maskOf l < 4294967296
  | [] => by decide
  | n :: l => Nat.or_lt_two_pow (n := 32) (maskOf_lt l) (bitN_lt n)
theorem maskOf_has (l : List Int) (h : ∀ n ∈ l, 0 ≤ n ∧ n ≤ 31) (k : Nat) (_hk : k < 32) : (maskOf l).testBit k = l.contains (k : Int) := by
  induction l with
  | nil => simp [maskOf]
  | cons n l ih =>
    obtain ⟨h1, h2⟩ := h n (by simp)
    obtain ⟨j, rfl⟩ : ∃ j : Nat, n = (j : Int) := ⟨n.toNat, by omega⟩
    rw [maskOf, Nat.testBit_or, ih (fun m hm => h m (by simp [hm])), bitN_nat (by omega), Nat.testBit_two_pow, List.contains_cons, Bool.or_comm]
    congr 1
    rw [Bool.eq_iff_iff]
    simp
    omega
def seenOf (l : List Int) : List Int := l.foldl (fun s n => if n = 0 then s else n :: s) []
theorem seenOf_snoc (l : List Int) (n : Int) : seenOf (l ++ [n]) = if n = 0 then seenOf l else n :: seenOf l := by unfold seenOf; rw [List.foldl_append]; rfl
theorem mapsOk_step {frm to : Nat} {l : List Int} {k : Nat} (hk : k < l.length) (h : mapsOk frm to 0 [] (l.take k) = true) :
    mapsOk frm to 0 [] (l.take (k + 1)) = (inR l[k] 0 to && (l[k] == 0 || (decide (k < frm) && !(seenOf (l.take k)).contains l[k]))) := by
  have e : 0 + (l.take k).length = k := by rw [List.length_take]; omega
  rw [List.take_succ_eq_append_getElem hk, mapsOk_append, h, e, mapsOk, mapsOk, Bool.and_true]; rfl
theorem mapsOk_bad {frm to : Nat} {l : List Int} {k : Nat} (h : mapsOk frm to 0 [] (l.take k) = false) : mapsOk frm to 0 [] l = false := by
  have h0 : l = l.take k ++ l.drop k := (List.take_append_drop k l).symm
  rw [h0, mapsOk_append, h, Bool.false_and]
/-- What has been seen lies in bounds. -/
theorem mapsOk_seen (frm to : Nat) : ∀ (l : List Int) (k : Nat) (s : List Int), mapsOk frm to k s l = true → (∀ n ∈ s, 0 ≤ n ∧ n ≤ to) → ∀ n ∈ l.foldl (fun s n => if n = 0 then s else n :: s) s, 0 ≤ n ∧ n ≤ to
  | [], _, s, _, hs => hs
  | m :: l, k, s, h, hs => by
    rw [mapsOk] at h
    simp only [Bool.and_eq_true] at h
    rw [List.foldl_cons]
    refine mapsOk_seen frm to l (k + 1) _ h.2 ?_
    have := h.1.1
    unfold inR at this
    split
    · exact hs
    · intro n hn
      rcases List.mem_cons.1 hn with rfl | hn
      · simpa using this
      · exact hs n hn
theorem agg_4 : AggOf Tryd.prog 91 4 := ⟨by kernel_rfl, by kernel_rfl⟩
theorem agg_16 : AggOf Tryd.prog 90 16 := ⟨by kernel_rfl, by kernel_rfl⟩

set_option maxRecDepth 100000 in
set_option maxHeartbeats 1000000 in
theorem maps_any (l : List Int) (frm to : Nat) (w : World) (hl : l.length = 4) (hto : to ≤ 31) :
    Calls Tryd.prog 52 #[.agg (iv l).toArray, .int .i64 (frm : Int), .int .i64 (to : Int)] w fun e w' => e = .returned (.bool (mapsOk frm to 0 [] l)) ∧ Keep [] w w' := by
  have hb := Blk.new w 91 (iv l).toArray
  have K0 := (Keep.refl [] w).alloc (.cells (iv l).toArray 91)
  have cl := Lib.hid hb.cellsAt
  have HL4 := Lib.hid hl
  have hidx := Lib.hid (fun k (hk : k < 4) v hv W => run_index_agg (P := Tryd.prog) (t := 91) (e := 3) (n := 4) (cs := (iv l).toArray) (v := v) Tryd.underlying91 Tryd.underlying3 rfl (by kernel_rfl) k hk hv W)
  have hget : Hid (∀ k, (hk : k < l.length) → (iv l).toArray[k]? = some (.int .i64 l[k])) := fun k hk => by rw [List.getElem?_toArray, iv_get hk]
  clear hb hl
  obtain ⟨ll, hll⟩ : ∃ ll, ll = iv l := ⟨_, rfl⟩
  have HLL : Hid (ll.length = 4) := by show _ = _; rw [hll, List.length_map, HL4.out]
  rw [← hll] at cl hidx hget K0 ⊢
  clear hll
  go_enter Tryd.func52, Tryd.ntmps52
  go_wp2_with (refine wpList_load_agg rfl 91 (.tmp 3) rfl rfl (cs := ll) (by rw [HLL.out]; exact agg_4) cl.out ?_)
  clear cl
  generalize ll.toArray = la at *
  go_loopw [7, 11] (fun s i wr => ∃ k : Nat, k ≤ 4 ∧ i = .int .i64 k ∧ mapsOk frm to 0 [] (l.take k) = true ∧ s = .int .u32 (maskOf (seenOf (l.take k)) : Int) ∧ w.alloc (.cells la 91) = wr) (fun _ i _ => 4 - (intOf i).toNat)
  case atStart => exact ⟨0, Nat.zero_le _, rfl, rfl, rfl, rfl⟩
  case round =>
    obtain ⟨k, hk, rfl, hm, rfl, rfl⟩ := hrel
    have hse : Hid (∀ n ∈ seenOf (l.take k), 0 ≤ n ∧ n ≤ 31) := fun n hn => by
      have := mapsOk_seen frm to (l.take k) 0 [] hm (by simp) n hn
      omega
    by_cases hlt : k < 4
    · have hk' : k < l.length := by rw [HL4.out]; exact hlt
      have hi := fun W => hidx.out k hlt _ (hget.out k hk') W
      have hst := Lib.hid (mapsOk_step (frm := frm) (to := to) hk' hm)
      have hbd := Lib.hid (mapsOk_bad (frm := frm) (to := to) (l := l) (k := k + 1))
      have hsn : Hid (seenOf (l.take (k + 1)) = if l[k] = 0 then seenOf (l.take k) else l[k] :: seenOf (l.take k)) := by
        show _ = _; rw [List.take_succ_eq_append_getElem hk', seenOf_snoc]
      have hms := maskOf_lt (seenOf (l.take k))
      clear hm
      generalize l[k] = n at *
      generalize seenOf (l.take k) = sn at *
      have hc : (n = 0) ∨ (n ≠ 0 ∧ n < 0) ∨ (n ≠ 0 ∧ 0 ≤ n ∧ (to : Int) < n) ∨ (n ≠ 0 ∧ 0 ≤ n ∧ n ≤ to ∧ (frm : Int) ≤ k) ∨ (n ≠ 0 ∧ 0 ≤ n ∧ n ≤ to ∧ (k : Int) < frm) := by omega
      rcases hc with g0 | ⟨g0, g1⟩ | ⟨g0, g1, g2⟩ | ⟨g0, g1, g2, g3⟩ | ⟨g0, g1, g2, g3⟩
      · have g5 : (n == 0) = true := by simp [g0]
        have HS : Hid (mapsOk frm to 0 [] (l.take (k + 1)) = true) := by show _ = _; rw [hst.out, g0]; simp [inR]
        have HN : Hid (seenOf (l.take (k + 1)) = sn) := by show _ = _; rw [hsn.out, if_pos g0]
        clear g0
        go_wp2
        go_roundw
        case rel => exact ⟨k + 1, by omega, by go_num, HS.out, by rw [HN.out], by trivial⟩
        case measure => simp [intOf] <;> omega
      · have g5 : (n == 0) = false := by simp [g0]
        have HB := Lib.hid (hbd.out (by rw [hst.out]; unfold inR; simp; omega))
        clear g0
        go_wp2
        go_ret
        exact ⟨by rw [HB.out]; rfl, K0⟩
      · have g5 : (n == 0) = false := by simp [g0]
        have HB := Lib.hid (hbd.out (by rw [hst.out]; unfold inR; simp; omega))
        clear g0
        go_wp2
        go_ret
        exact ⟨by rw [HB.out]; rfl, K0⟩
      · have g5 : (n == 0) = false := by simp [g0]
        have g6 : frm ≤ k := by omega
        have HB := Lib.hid (hbd.out (by rw [hst.out]; unfold inR; simp; omega))
        clear g0
        go_wp2
        go_ret
        exact ⟨by rw [HB.out]; rfl, K0⟩
      · obtain ⟨j, rfl⟩ : ∃ j : Nat, n = (j : Int) := ⟨n.toNat, by omega⟩
        have g5 : ((j : Int) == 0) = false := by simp; omega
        have g6 : k < frm := by omega
        have hh := has_testBit (maskOf sn) j (by omega)
        rw [maskOf_has sn hse.out j (by omega)] at hh
        have HH := Lib.hid hh
        cases hv : sn.contains (j : Int)
        · have HV := Lib.hid hv
          have HS : Hid (mapsOk frm to 0 [] (l.take (k + 1)) = true) := by show _ = _; rw [hst.out, hv]; unfold inR; simp; omega
          have HN : Hid (seenOf (l.take (k + 1)) = (j : Int) :: sn) := by show _ = _; rw [hsn.out, if_neg g0]
          clear hh hv g0
          go_wp2_with fail
          refine (has_any _ _ _ hms).mono ?_
          rintro e w' ⟨rfl, rfl⟩
          rw [HH.out, HV.out]
          go_wp2_with fail
          refine (with_any _ _ _ hms).mono ?_
          rintro e w' ⟨rfl, rfl⟩
          go_wp2
          go_roundw
          case rel => exact ⟨k + 1, by omega, by go_num, HS.out, by rw [HN.out]; rfl, by trivial⟩
          case measure => simp [intOf] <;> omega
        · have HV := Lib.hid hv
          have HB := Lib.hid (hbd.out (by rw [hst.out, hv]; simp; omega))
          clear hh hv g0
          go_wp2_with fail
          refine (has_any _ _ _ hms).mono ?_
          rintro e w' ⟨rfl, rfl⟩
          rw [HH.out, HV.out]
          go_wp2
          go_ret
          exact ⟨by rw [HB.out]; rfl, K0⟩
    · obtain rfl : k = 4 := by omega
      rw [List.take_of_length_le (by rw [HL4.out]; exact Nat.le_refl _)] at hm
      have HB := Lib.hid hm
      clear hm
      go_wp2
      go_ret
      exact ⟨by rw [HB.out]; rfl, K0⟩
end Go.Proofs.YteflgdnekflbbaaDoor

namespace Go.Proofs.YteflgdnekflbbaaDoor
open Go.RowKit

/-- Which edge goes from a mode to another one: the first. -/
def edgeIs (f t : Int) (_ : Nat) (e : Edg) : Bool := !(e.frm == f && e.to == t)
def edgeAt (es : List Edg) (f t : Int) : Option Nat := firstBad (edgeIs f t) 0 es
def edgeRes (r : Option Nat) : Value := match r with | some i => .tuple #[.int .i64 (i : Int), .bool true] | none => .tuple #[.int .i64 0, .bool false]
theorem edg_c (e : Edg) (j : Nat) (h : j < (edgInts e).length) : (edgCells e)[j]? = some (.int .i64 (edgInts e)[j]) := iv_get h

set_option maxRecDepth 100000 in
set_option maxHeartbeats 1000000 in
theorem edge_any (v : ImgV) (x : Img) (f t : Int) (w : World) (h : ImgAt w v x) :
    Calls Tryd.prog 18 #[.agg (imgCells v x).toArray, .int .i64 f, .int .i64 t] w fun e w' => e = .returned (edgeRes (edgeAt x.edges f t)) ∧ Keep [] w w' := by
  have hl := h.le
  unfold maxLen at hl
  have hb := img_box w v x
  have K0 := (Keep.refl [] w).alloc (.cells (imgCells v x).toArray 26)
  have c3 := img_c3 hb
  clear hb
  have he := h.edge
  have hof := Lib.hid h.ok
  generalize (imgCells v x).toArray = cs at *
  generalize hes : x.edges = es at *
  have HE := Lib.hid hes
  clear hes
  go_enter Tryd.func18, Tryd.ntmps18
  go_wp2
  go_loopw [13] (fun i wr => ∃ k : Nat, k ≤ es.length ∧ i = .int .i64 k ∧ firstBad (edgeIs f t) 0 (es.take k) = none ∧ Keep [] w wr) (fun i _ => es.length - (intOf i).toNat)
  case atStart => exact ⟨0, Nat.zero_le _, rfl, rfl, K0⟩
  case round =>
    clear K0
    obtain ⟨k, hk, rfl, hfb, hkeep⟩ := hrel
    by_cases hlt : k < es.length
    · obtain ⟨b, o, hA, hbl, hcs⟩ := he (by omega)
      have hA' := hA
      have hce := (hcs k hlt).keep0 hkeep hbl
      have hok := Lib.hid (firstBad_step (edgeIs f t) hlt hfb)
      have hat := Lib.hid (firstBad_at (edgeIs f t) hlt hfb)
      have hlen : (edgCells es[k]).length = 23 := edgCells_len (hof.out.offs _ (by rw [HE.out]; exact List.getElem_mem hlt)) (hof.out.mp _ (by rw [HE.out]; exact List.getElem_mem hlt))
      have HL := Lib.hid hlen
      have e0 := edg_c es[k] 0 (by simp [edgInts])
      have e1 := edg_c es[k] 1 (by simp [edgInts])
      simp only [edgInts, List.getElem_cons_zero, List.getElem_cons_succ] at e0 e1
      have hid : Hid (edgeIs f t k es[k] = !(es[k].frm == f && es[k].to == t)) := rfl
      have hone : ∀ u ∈ edgCells es[k], u.oneCell' = true := iv_one _
      clear hfb hcs
      generalize es[k] = e at *
      generalize edgCells e = ec at *
      rw [hA]
      have hcase : ((e.frm == f) = false ∧ edgeIs f t k e = true) ∨ ((e.frm == f) = true ∧ (e.to == t) = false ∧ edgeIs f t k e = true) ∨ ((e.frm == f) = true ∧ (e.to == t) = true ∧ edgeIs f t k e = false) := by
        rw [hid.out]
        cases (e.frm == f) <;> cases (e.to == t) <;> simp
      rcases hcase with ⟨h1, hi⟩ | ⟨h1, h2, hi⟩ | ⟨h1, h2, hi⟩
      all_goals
        have HI := Lib.hid hi
        clear hi
        go_wp2_with (first
          | (refine wpList_load_agg rfl 93 (.tmp 16) rfl rfl (cs := ec) (by rw [HL.out]; exact agg_edge) hce ?_)
          | (refine stop_store 93 (.tmp 9) (.tmp 17) rfl ?_))
        constructor
        refine wpList_store_all rfl 93 (.tmp 9) (.tmp 17) rfl rfl rfl (vs := ec) (by rw [HL.out]; exact agg_edge.2) (Blk.new _ _ _) hone (by rw [HL.out]; rfl) ?_
        intro w2 hb2 hk2
        have q0 := hb2.at_ e0
        have q1 := hb2.at_ e1
        have hk3 := (hkeep.alloc _).trans hk2 (fun y hy h => by simp at hy; have := hkeep.size; omega)
        clear hb2 hk2 hce
        go_wp2
      · go_roundw
        case rel => exact ⟨k + 1, by omega, by go_num, hok.out HI.out, hk3⟩
        case measure => simp [intOf] <;> omega
      · go_roundw
        case rel => exact ⟨k + 1, by omega, by go_num, hok.out HI.out, hk3⟩
        case measure => simp [intOf] <;> omega
      · have HR := Lib.hid (hat.out HI.out)
        go_ret2
        exact ⟨by unfold edgeAt; rw [HR.out]; rfl, hk3⟩
    · have hall := Lib.hid (firstBad_all (edgeIs f t) (by omega) hfb)
      go_wp2
      go_ret2
      exact ⟨by unfold edgeAt; rw [hall.out]; rfl, hkeep⟩
end Go.Proofs.YteflgdnekflbbaaDoor

namespace Go.Proofs.YteflgdnekflbbaaDoor
open Go.RowKit

def minusN (s l : Nat) : Nat := s &&& (4294967295 - l)
theorem minusN_lt (s l : Nat) (hs : s < 4294967296) : minusN s l < 4294967296 := Nat.lt_of_le_of_lt Nat.and_le_left hs
theorem minusN_testBit (s l i : Nat) (hs : s < 4294967296) (hl : l < 4294967296) : (minusN s l).testBit i = (s.testBit i && !l.testBit i) := by
  unfold minusN
  have h := Nat.testBit_two_pow_sub_succ (n := 32) (x := l) hl i
  rw [Nat.testBit_and, show 4294967295 - l = 2 ^ 32 - (l + 1) by omega, h]
  by_cases hi : i < 32
  · simp [hi]
  · have := Nat.testBit_lt_two_pow (x := s) (i := i) (Nat.lt_of_lt_of_le (show s < 2 ^ 32 from hs) (Nat.pow_le_pow_right (by decide) (by omega)))
    simp [this]
/-- Offsets, by the set of new tasks. -/
def offsF (prot : Int) (fr : Nat) : Nat → List Int → Bool
  | _, [] => true
  | k, n :: l => inR n 0 16384 && (n == 0 || (decide (prot = 3) && fr.testBit k)) && offsF prot fr (k + 1) l
theorem offsF_eq (prot : Int) (a b : Nat) (ha : a < 4294967296) (hb : b < 4294967296) : ∀ (l : List Int) (k : Nat), offsF prot (minusN b a) k l = offsOk prot a b k l
  | [], _ => rfl
  | n :: l, k => by rw [offsF, offsOk, offsF_eq prot a b ha hb l, minusN_testBit _ _ _ hb ha, Bool.and_assoc (decide (prot = 3))]
theorem offsF_append (prot : Int) (fr : Nat) : ∀ (l m : List Int) (k : Nat), offsF prot fr k (l ++ m) = (offsF prot fr k l && offsF prot fr (k + l.length) m)
  | [], m, k => by simp [offsF]
  | n :: l, m, k => by
    rw [List.cons_append, offsF, offsF, offsF_append prot fr l m (k + 1), List.length_cons, show k + 1 + l.length = k + (l.length + 1) by omega]
    simp only [Bool.and_assoc]
theorem offsF_step {prot : Int} {fr : Nat} {l : List Int} {k : Nat} (hk : k < l.length) (h : offsF prot fr 0 (l.take k) = true) :
    offsF prot fr 0 (l.take (k + 1)) = (inR l[k] 0 16384 && (l[k] == 0 || (decide (prot = 3) && fr.testBit k))) := by
  have e : 0 + (l.take k).length = k := by rw [List.length_take]; omega
  rw [List.take_succ_eq_append_getElem hk, offsF_append, h, e, offsF, offsF, Bool.and_true]; rfl
theorem offsF_bad {prot : Int} {fr : Nat} {l : List Int} {k : Nat} (h : offsF prot fr 0 (l.take k) = false) : offsF prot fr 0 l = false := by
  have h0 : l = l.take k ++ l.drop k := (List.take_append_drop k l).symm
  rw [h0, offsF_append, h, Bool.false_and]
theorem edg_offs (e : Edg) (k : Nat) (h : k < e.offs.length) : (edgCells e)[3 + k]? = some (.int .i64 e.offs[k]) := by
  rw [edg_c e (3 + k) (by simp [edgInts]; omega)]
  simp [edgInts, show 3 + k = k + 3 by omega, h]
theorem edg_mp (e : Edg) (k : Nat) (ho : e.offs.length = 16) (h : k < e.mp.length) : (edgCells e)[19 + k]? = some (.int .i64 e.mp[k]) := by
  rw [edg_c e (19 + k) (by simp [edgInts]; omega)]
  simp [edgInts, show 19 + k = (16 + k) + 3 by omega, ho]
theorem edg_offsAt {w : World} {g ty : Nat} {e : Edg} (h : Blk w g ty (edgCells e).toArray) : CellsAt w g 3 (iv e.offs) := by
  intro j u hu
  have hj : j < e.offs.length := by have := (List.getElem?_eq_some_iff.1 hu).1; simpa using this
  rw [iv_get hj] at hu
  exact h.at_ ((edg_offs e j hj).trans hu)
theorem edg_mpAt {w : World} {g ty : Nat} {e : Edg} (ho : e.offs.length = 16) (h : Blk w g ty (edgCells e).toArray) : CellsAt w g 19 (iv e.mp) := by
  intro j u hu
  have hj : j < e.mp.length := by have := (List.getElem?_eq_some_iff.1 hu).1; simpa using this
  rw [iv_get hj] at hu
  exact h.at_ ((edg_mp e j ho hj).trans hu)

set_option maxRecDepth 100000 in
set_option maxHeartbeats 1000000 in
theorem offsets_any (e : Edg) (fr : Nat) (w : World) (hl : e.offs.length = 16) (hfr : fr < 4294967296) :
    Calls Tryd.prog 53 #[.agg (edgCells e).toArray, .int .u32 (fr : Int)] w fun en w' => en = .returned (.bool (offsF e.prot fr 0 e.offs)) ∧ Keep [] w w' := by
  have hb := Blk.new w 93 (edgCells e).toArray
  have K0 := (Keep.refl [] w).alloc (.cells (edgCells e).toArray 93)
  have cl := Lib.hid (edg_offsAt hb)
  have c2 := hb.at_ (edg_c e 2 (by simp [edgInts]))
  simp only [edgInts, List.getElem_cons_zero, List.getElem_cons_succ] at c2
  have HL := Lib.hid hl
  clear hb hl
  generalize (edgCells e).toArray = cs at *
  generalize e.prot = prot at *
  generalize e.offs = l at *
  have hidx := Lib.hid (fun k (hk : k < 16) v hv W => run_index_agg (P := Tryd.prog) (t := 90) (e := 3) (n := 16) (cs := (iv l).toArray) (v := v) Tryd.underlying90 Tryd.underlying3 rfl (by kernel_rfl) k hk hv W)
  have hget : Hid (∀ k, (hk : k < l.length) → (iv l).toArray[k]? = some (.int .i64 l[k])) := fun k hk => by rw [List.getElem?_toArray, iv_get hk]
  go_enter Tryd.func53, Tryd.ntmps53
  go_wp2_with (refine wpList_load_agg rfl 90 (.tmp 7) rfl rfl (cs := iv l) (by rw [List.length_map, HL.out]; exact agg_16) cl.out ?_)
  clear cl
  generalize (iv l).toArray = la at *
  go_loopw [9] (fun i wr => ∃ k : Nat, k ≤ 16 ∧ i = .int .i64 k ∧ offsF prot fr 0 (l.take k) = true ∧ w.alloc (.cells cs 93) = wr) (fun i _ => 16 - (intOf i).toNat)
  case atStart => exact ⟨0, Nat.zero_le _, rfl, rfl, rfl⟩
  case round =>
    obtain ⟨k, hk, rfl, hm, rfl⟩ := hrel
    by_cases hlt : k < 16
    · have hk' : k < l.length := by rw [HL.out]; exact hlt
      have hi := fun W => hidx.out k hlt _ (hget.out k hk') W
      have hst := Lib.hid (offsF_step (prot := prot) (fr := fr) hk' hm)
      have hbd := Lib.hid (offsF_bad (prot := prot) (fr := fr) (l := l) (k := k + 1))
      have hh := Lib.hid (has_testBit fr k (by omega))
      clear hm
      generalize l[k] = n at *
      have hc : (n = 0) ∨ (n < 0) ∨ (0 ≤ n ∧ 16384 < n) ∨ (0 < n ∧ n ≤ 16384 ∧ prot ≠ 3) ∨ (0 < n ∧ n ≤ 16384 ∧ prot = 3) := by omega
      rcases hc with g0 | g0 | ⟨g1, g2⟩ | ⟨g1, g2, g3⟩ | ⟨g1, g2, g3⟩
      · have HS : Hid (offsF prot fr 0 (l.take (k + 1)) = true) := by show _ = _; rw [hst.out, g0]; simp [inR]
        have g1 : 0 ≤ n := by omega
        have g2 : n ≤ 0 := by omega
        clear g0
        go_wp2
        go_roundw
        case rel => exact ⟨k + 1, by omega, by go_num, HS.out, by trivial⟩
        case measure => simp [intOf] <;> omega
      · have HB := Lib.hid (hbd.out (by rw [hst.out]; unfold inR; simp; omega))
        go_wp2
        go_ret
        exact ⟨by rw [HB.out]; rfl, K0⟩
      · have HB := Lib.hid (hbd.out (by rw [hst.out]; unfold inR; simp; omega))
        go_wp2
        go_ret
        exact ⟨by rw [HB.out]; rfl, K0⟩
      · have HB := Lib.hid (hbd.out (by rw [hst.out]; unfold inR; simp; omega))
        have g4 : (prot != 3) = true := by simp [g3]
        have g5 : 0 ≤ n := by omega
        clear g3
        go_wp2
        go_ret
        exact ⟨by rw [HB.out]; rfl, K0⟩
      · have g4 : (prot != 3) = false := by simp [g3]
        have g5 : 0 ≤ n := by omega
        cases hv : fr.testBit k
        · have HV := Lib.hid hv
          have HB := Lib.hid (hbd.out (by rw [hst.out, hv]; unfold inR; simp; omega))
          clear g3 hv
          go_wp2_with fail
          refine (has_any _ _ _ hfr).mono ?_
          rintro e w' ⟨rfl, rfl⟩
          rw [hh.out, HV.out]
          go_wp2
          go_ret
          exact ⟨by rw [HB.out]; rfl, K0⟩
        · have HV := Lib.hid hv
          have HS : Hid (offsF prot fr 0 (l.take (k + 1)) = true) := by show _ = _; rw [hst.out, hv]; unfold inR; simp; omega
          clear g3 hv
          go_wp2_with fail
          refine (has_any _ _ _ hfr).mono ?_
          rintro e w' ⟨rfl, rfl⟩
          rw [hh.out, HV.out]
          go_wp2
          go_roundw
          case rel => exact ⟨k + 1, by omega, by go_num, HS.out, by trivial⟩
          case measure => simp [intOf] <;> omega
    · obtain rfl : k = 16 := by omega
      rw [List.take_of_length_le (by rw [HL.out]; exact Nat.le_refl _)] at hm
      have HB := Lib.hid hm
      clear hm
      go_wp2
      go_ret
      exact ⟨by rw [HB.out]; rfl, K0⟩
end Go.Proofs.YteflgdnekflbbaaDoor

namespace Go.Proofs.YteflgdnekflbbaaDoor
open Go.RowKit

theorem que_two (q : Que) : queCells q = [.int .i64 q.cap, .int .i64 q.pol] := rfl
theorem all_step {α : Type} {p : α → Bool} {l : List α} {k : Nat} (hk : k < l.length) (h : (l.take k).all p = true) (hp : p l[k] = true) : (l.take (k + 1)).all p = true := by
  rw [List.take_succ_eq_append_getElem hk, List.all_append, h]; simp [hp]
theorem all_bad {α : Type} {p : α → Bool} {l : List α} {k : Nat} (hk : k < l.length) (hp : p l[k] = false) : l.all p = false := by
  rw [← Bool.not_eq_true]
  intro h
  have := List.all_eq_true.1 h _ (List.getElem_mem hk)
  rw [hp] at this; cases this

set_option maxRecDepth 100000 in
set_option maxHeartbeats 1000000 in
theorem queues_any (A : Option Addr) (c : Nat) (l : List Que) (w : World) (h : Reads w 2 A l.length (l.flatMap queCells)) (hm : l.length ≤ maxLen) :
    Calls Tryd.prog 37 #[.slice A l.length c] w fun e w' => e = .returned (.bool (quesOk l)) ∧ Keep [] w w' := by
  unfold maxLen at hm
  have he := h.elems rfl (fun q _ => rfl)
  rcases Nat.lt_or_ge 4 l.length with h4 | h4
  · have HF : Hid (quesOk l = false) := by show _ = _; unfold quesOk; simp; omega
    clear he
    generalize l.length = n at *
    go_enter Tryd.func37, Tryd.ntmps37
    go_wp2
    go_ret
    exact ⟨by rw [HF.out]; rfl, Keep.refl _ _⟩
  have HQ : Hid (quesOk l = l.all queOk) := by show _ = _; unfold quesOk; simp [h4]
  go_enter Tryd.func37, Tryd.ntmps37
  go_wp2
  go_loopw [10] (fun i wr => ∃ k : Nat, k ≤ l.length ∧ i = .int .i64 k ∧ (l.take k).all queOk = true ∧ Keep [] w wr) (fun i _ => l.length - (intOf i).toNat)
  case atStart => exact ⟨0, Nat.zero_le _, rfl, rfl, Keep.refl _ _⟩
  case round =>
    obtain ⟨k, hk, rfl, hall, hkeep⟩ := hrel
    by_cases hlt : k < l.length
    · obtain ⟨b, o, hA, hbl, hcs⟩ := he (by omega)
      have hce := (hcs k hlt).keep0 hkeep hbl
      rw [que_two] at hce
      have q0 := hce 0 _ rfl
      have q1 := hce 1 _ rfl
      have hst := Lib.hid (all_step hlt hall)
      have hbd := Lib.hid (all_bad (p := queOk) hlt)
      have hq : Hid (queOk l[k] = (inR l[k].cap 1 16 && inR l[k].pol 1 3)) := show _ = _ from rfl
      have K1 := hkeep.alloc (.cells #[.int .i64 l[k].cap, .int .i64 l[k].pol] 130)
      simp only [Nat.add_zero] at q0
      clear hce hcs he hall h
      generalize l[k] = q at *
      generalize q.cap = a at *
      generalize q.pol = p at *
      rw [hA]
      have hc : (a < 1) ∨ (1 ≤ a ∧ 16 < a) ∨ (1 ≤ a ∧ a ≤ 16 ∧ p < 1) ∨ (1 ≤ a ∧ a ≤ 16 ∧ 1 ≤ p ∧ 3 < p) ∨ (1 ≤ a ∧ a ≤ 16 ∧ 1 ≤ p ∧ p ≤ 3) := by omega
      rcases hc with g1 | ⟨g1, g2⟩ | ⟨g1, g2, g3⟩ | ⟨g1, g2, g3, g4⟩ | ⟨g1, g2, g3, g4⟩
      iterate 4
        · have HB := Lib.hid (hbd.out (by rw [hq.out]; unfold inR; simp <;> omega))
          go_wp2
          go_ret
          exact ⟨by rw [HQ.out, HB.out]; rfl, K1⟩
      · have HS := Lib.hid (hst.out (by rw [hq.out]; unfold inR; simp <;> omega))
        go_wp2
        go_roundw
        case rel => exact ⟨k + 1, by omega, by go_num, HS.out, K1⟩
        case measure => simp [intOf] <;> omega
    · have HA : Hid (l.all queOk = true) := by show _ = _; rwa [List.take_of_length_le (by omega)] at hall
      clear hall
      go_wp2
      go_ret
      exact ⟨by rw [HQ.out, HA.out]; rfl, hkeep⟩

/-- Is a task in a set? (The document's.) -/
def has10 (s : Nat) (i : Int) : Bool := decide (0 ≤ i) && decide (i < 32) && s.testBit i.toNat
theorem rem_bit (s k : Nat) : (((s : Int) / 2 ^ k).tmod 2 == 1) = s.testBit k := by
  have e : ((s : Int) / 2 ^ k).tmod 2 = ((s / 2 ^ k % 2 : Nat) : Int) := by
    rw [Int.tmod_eq_emod_of_nonneg (Int.ediv_nonneg (by omega) (by have : (0 : Int) < 2 ^ k := Int.pow_pos (by decide); omega))]
    norm_cast
  rw [e, Nat.testBit_eq_decide_div_mod_eq, Bool.eq_iff_iff]
  simp only [beq_iff_eq, decide_eq_true_eq]
  omega
end Go.Proofs.YteflgdnekflbbaaDoor
