/- Layer 20: do offsets fit; is a task new; the offset of all new tasks; the chapter's example. Condition: the table of math/bits lies where the program's text lays it; small numbers. OffsetFinds: the law's walk. Condition: the table of math/bits lies where the program's text lays it. -/
import Derived.Test.YtggjhjbcdnffnaaDoorOffD
namespace Go.Proofs.YtggjhjbcdnffnaaDoor
open Go.RowKit

set_option maxRecDepth 100000 in
set_option maxHeartbeats 2000000 in
theorem fits20_any (v : ImgV) (x : Img) (k : Nat) (L : List Int) (w : World) (hTb : Tab w) (h : ImgAt w v x) (hE : EdW x k) (hL : OffOk L) :
    Calls Tryd.prog 24 #[.agg (imgCells v x).toArray, .int .i64 (k : Int), .agg (iv L).toArray] w fun e w' => e = .returned (.bool (fitsB x k L)) ∧ Keep [] w w' := by
  obtain ⟨W0, hW0⟩ : ∃ W0, (w.alloc (.cells (imgCells v x).toArray 26)).alloc (.cells (iv L).toArray 27) = W0 := ⟨_, rfl⟩
  have b0 : Blk W0 w.heap.size 26 (imgCells v x).toArray := by rw [← hW0]; exact (img_box w v x).alloc _
  have b1 : Blk W0 (w.heap.size + 1) 27 (iv L).toArray := by rw [← hW0]; exact Blk.new1 _ _ _ _
  have K0 : Keep [] w W0 := by rw [← hW0]; exact ((Keep.refl [] w).alloc _).alloc _
  have hcI := Lib.hid b0.cellsAt
  have hcL := Lib.hid b1.cellsAt
  have HIC : Hid ((imgCells v x).length = 4) := show _ = _ from rfl
  have HOC : Hid ((iv L).length = 16) := by show _ = _; rw [iv_len]; exact hL.1
  have hcok := clsE_ok x k h.ok
  have HN := Lib.hid (new_in v x k L W0 (hTb.keep0 K0) (h.keep0 K0) hE.lt hL.1)
  have HSp := fun w' hk => Lib.hid (span_any v x (clsE x k) (tabE x k) L w' (hTb.keep0 (w' := w') hk) (h.keep0 hk) hcok (tabE_len x k) hL hE.small hE.both hE.to_)
  have HSL : Hid ((shCells v x (clsE x k) (tabE x k) L).length = 31) := shCells_len v x _ (tabE_len x k) hL.1
  have hone : Hid (∀ u ∈ shCells v x (clsE x k) (tabE x k) L, u.oneCell' = true) := shCells_one _ _ _ _ _
  have HFB : Hid (fitsB x k L = (spanM x (clsE x k) (tabE x k) L).isSome) := show _ = _ from rfl
  have HW := Lib.hid hW0
  clear hTb h hE hL hcok b0 b1 hW0
  generalize shCells v x (clsE x k) (tabE x k) L = sc at *
  generalize spanM x (clsE x k) (tabE x k) L = sp at *
  generalize imgCells v x = il at *
  generalize iv L = lc at *
  go_enter Tryd.func24, Tryd.ntmps24
  go_wp2_with (first
    | rw [HW.out]
    | (refine wpList_load_agg rfl 26 (.tmp 3) rfl rfl (cs := il) (by rw [HIC.out]; exact agg_image) hcI.out ?_)
    | (refine wpList_load_agg rfl 27 (.tmp 5) rfl rfl (cs := lc) (by rw [HOC.out]; exact agg_offs) hcL.out ?_))
  refine HN.out.mono ?_
  rintro e w2 ⟨rfl, k2⟩
  have HK2 := Lib.hid (K0.then k2)
  clear k2 HN hcI hcL
  go_wp2_with (refine stop_store 37 (.tmp 7) (.tmp 16) rfl ?_)
  constructor
  refine wpList_store_all rfl 37 (.tmp 7) (.tmp 16) rfl rfl rfl (vs := sc) (by rw [HSL.out]; exact agg_shift.2) (Blk.new _ _ _) hone.out ?_ ?_
  · rw [HSL.out]; rfl
  intro w3 d3 k3
  have k23 : Keep [] w2 w3 := ((Keep.refl [] w2).alloc _).trans k3 (fun y hy hlt => by simp at hy; omega)
  have HK3 := Lib.hid (HK2.out.then k23)
  have hA3 := Lib.hid d3.cellsAt
  clear k3 k23 d3
  go_wp2_with (refine wpList_load_agg rfl 37 (.tmp 7) rfl rfl (cs := sc) (by rw [HSL.out]; exact agg_shift) hA3.out ?_)
  refine (HSp _ HK3.out).out.mono ?_
  rintro e w4 ⟨rfl, k4⟩
  rw [show spanRes sp = .tuple #[.agg #[.int .i64 (sp.getD (0, 0)).1, .int .i64 (sp.getD (0, 0)).2], .bool sp.isSome] from rfl]
  generalize (sp.getD (0, 0)).1 = p1 at *
  generalize (sp.getD (0, 0)).2 = p2 at *
  generalize sp.isSome = ss at *
  have HK4 := Lib.hid (HK3.out.then k4)
  clear k4
  go_wp2_with (refine stop_store 49 (.tmp 9) (.tmp 21) rfl ?_)
  constructor
  refine wpList_store_all rfl 49 (.tmp 9) (.tmp 21) rfl rfl rfl (vs := [.int .i64 p1, .int .i64 p2]) agg_span.2 (Blk.new _ _ _) (by simp [Value.oneCell']) ?_ ?_
  · rfl
  intro w5 d5 k5
  have k45 : Keep [] w4 w5 := ((Keep.refl [] w4).alloc _).trans k5 (fun y hy hlt => by simp at hy; omega)
  have HK5 := Lib.hid (HK4.out.then k45)
  clear k5 k45 d5
  cases ss with
  | true =>
    go_wp2
    go_ret
    exact ⟨by rw [HFB.out]; rfl, HK5.out⟩
  | false =>
    go_wp2
    go_ret
    exact ⟨by rw [HFB.out]; rfl, HK5.out⟩
/-- An edge of an image that may be, its modes' sets. -/
structure EdX (x : Img) (k f t : Nat) : Prop where
  inn : EdgeIn x k f t
  cls : clsE x k = clsOf f t
  fl : f < 4294967296
  tl : t < 4294967296
theorem EdX.new_bit {x : Img} {k f t : Nat} (h : EdX x k f t) (i : Nat) (hi : i < 16) : (has10 t (i : Int) && !has10 f (i : Int)) = (clsE x k).new.testBit i := by
  rw [h.cls, ← clsOf_new h.fl h.tl, has10_nat (by omega)]
set_option maxRecDepth 100000 in
set_option maxHeartbeats 1000000 in
theorem fresh_any (v : ImgV) (x : Img) (k f t : Nat) (i : Nat) (w : World) (h : ImgAt w v x) (he : EdX x k f t) (hi : i < 16) :
    Calls Tryd.prog 27 #[.agg (imgCells v x).toArray, .int .i64 (k : Int), .int .i64 (i : Int)] w fun e w' => e = .returned (.bool ((clsE x k).new.testBit i)) ∧ Keep [] w w' := by
  have b0 := img_box w v x
  obtain ⟨W0, hW0⟩ : ∃ W0, w.alloc (.cells (imgCells v x).toArray 26) = W0 := ⟨_, rfl⟩
  rw [hW0] at b0
  have K0 : Keep [] w W0 := by rw [← hW0]; exact (Keep.refl [] w).alloc _
  have HSe := Lib.hid (sets_any v x k f t W0 (h.keep0 K0) he.inn)
  have HC0 := Lib.hid b0.cellsAt
  have HIC : Hid ((imgCells v x).length = 4) := show _ = _ from rfl
  have HT := fun w => Lib.hid (has10_any t (i : Int) w he.tl)
  have HF := fun w => Lib.hid (has10_any f (i : Int) w he.fl)
  have HO : Hid ((clsE x k).new.testBit i = (has10 t (i : Int) && !has10 f (i : Int))) := (he.new_bit i hi).symm
  have HW := Lib.hid hW0
  clear hW0 b0 h he
  generalize imgCells v x = il at *
  generalize (clsE x k).new.testBit i = r at *
  cases ht : has10 t (i : Int) with
  | false =>
    rw [ht] at HT HO
    go_enter Tryd.func27, Tryd.ntmps27
    go_wp2_with (first
      | rw [HW.out]
      | (refine wpList_load_agg rfl 26 (.tmp 3) rfl rfl (cs := il) (by rw [HIC.out]; exact agg_image) HC0.out ?_)
      | (refine HSe.out.mono ?_; rintro e w2 ⟨rfl, k2⟩)
      | (refine (HT _).out.mono ?_; rintro e w3 ⟨rfl, rfl⟩))
    go_ret
    exact ⟨by rw [HO.out]; rfl, K0.then k2⟩
  | true =>
    rw [ht] at HT HO
    cases hf : has10 f (i : Int) with
    | true =>
      rw [hf] at HF HO
      go_enter Tryd.func27, Tryd.ntmps27
      go_wp2_with (first
        | rw [HW.out]
        | (refine wpList_load_agg rfl 26 (.tmp 3) rfl rfl (cs := il) (by rw [HIC.out]; exact agg_image) HC0.out ?_)
        | (refine HSe.out.mono ?_; rintro e w2 ⟨rfl, k2⟩)
        | (refine (HT _).out.mono ?_; rintro e w3 ⟨rfl, rfl⟩; clear HT)
        | (refine (HF _).out.mono ?_; rintro e w3 ⟨rfl, rfl⟩))
      go_ret
      exact ⟨by rw [HO.out]; rfl, K0.then k2⟩
    | false =>
      rw [hf] at HF HO
      go_enter Tryd.func27, Tryd.ntmps27
      go_wp2_with (first
        | rw [HW.out]
        | (refine wpList_load_agg rfl 26 (.tmp 3) rfl rfl (cs := il) (by rw [HIC.out]; exact agg_image) HC0.out ?_)
        | (refine HSe.out.mono ?_; rintro e w2 ⟨rfl, k2⟩)
        | (refine (HT _).out.mono ?_; rintro e w3 ⟨rfl, rfl⟩; clear HT)
        | (refine (HF _).out.mono ?_; rintro e w3 ⟨rfl, rfl⟩))
      go_ret
      exact ⟨by rw [HO.out]; rfl, K0.then k2⟩

/-- The new ones among the first k come from n on. -/
def setL (s : Nat) (n : Int) (k : Nat) : List Int := (List.range 16).map (fun j => if s.testBit j = true ∧ j < k then n else 0)
theorem setL_get (s : Nat) (n : Int) (k j : Nat) (hj : j < 16) : (setL s n k)[j]? = some (if s.testBit j = true ∧ j < k then n else 0) := by
  unfold setL
  rw [List.getElem?_map, List.getElem?_range hj]; rfl
theorem setL_len (s : Nat) (n : Int) (k : Nat) : (setL s n k).length = 16 := by simp [setL]
theorem setL_zero (s : Nat) (n : Int) : setL s n 0 = z16 := by
  apply List.ext_getElem?
  intro j
  rcases Nat.lt_or_ge j 16 with hj | hj
  · rw [setL_get _ _ _ _ hj, if_neg (by omega)]
    have : ∀ j, j < 16 → z16[j]? = some 0 := by decide
    rw [this j hj]
  · rw [List.getElem?_eq_none (by rw [setL_len]; omega), List.getElem?_eq_none (by show 16 ≤ j; omega)]
theorem setL_all (s : Nat) (n : Int) : setL s n 16 = farL s n := by
  unfold setL farL
  apply List.map_congr_left
  intro j hj
  have := List.mem_range.1 hj
  simp [this]
theorem setL_yes (s : Nat) (n : Int) (k : Nat) (hk : k < 16) (hb : s.testBit k = true) : setL s n (k + 1) = (setL s n k).set k n := by
  apply List.ext_getElem?
  intro j
  rw [List.getElem?_set, setL_len]
  rcases Nat.lt_or_ge j 16 with hj | hj
  · rw [setL_get _ _ _ _ hj, setL_get _ _ _ _ hj]
    by_cases e : k = j
    · subst e; simp [hk, hb]
    · rw [if_neg e]
      have : (s.testBit j = true ∧ j < k + 1) ↔ (s.testBit j = true ∧ j < k) := by constructor <;> rintro ⟨a, b⟩ <;> exact ⟨a, by omega⟩
      simp only [this]
  · rw [List.getElem?_eq_none (by rw [setL_len]; omega), List.getElem?_eq_none (by rw [setL_len]; omega)]
    split
    · omega
    · rfl
theorem setL_no (s : Nat) (n : Int) (k : Nat) (hb : s.testBit k = false) : setL s n (k + 1) = setL s n k := by
  unfold setL
  apply List.map_congr_left
  intro j _
  have : (s.testBit j = true ∧ j < k + 1) ↔ (s.testBit j = true ∧ j < k) := by
    constructor
    · rintro ⟨a, b⟩
      refine ⟨a, ?_⟩
      rcases Nat.lt_or_ge j k with h1 | h1
      · exact h1
      · obtain rfl : j = k := by omega
        rw [hb] at a; cases a
    · rintro ⟨a, b⟩; exact ⟨a, by omega⟩
  simp only [this]
set_option maxRecDepth 100000 in
set_option maxHeartbeats 2000000 in
theorem all20_any (v : ImgV) (x : Img) (k f t : Nat) (n : Int) (w : World) (h : ImgAt w v x) (he : EdX x k f t) :
    Calls Tryd.prog 25 #[.agg (imgCells v x).toArray, .int .i64 (k : Int), .int .i64 n] w fun e w' => e = .returned (.agg (iv (farL (clsE x k).new n)).toArray) ∧ Keep [] w w' := by
  obtain ⟨W0, hW0⟩ : ∃ W0, ((w.alloc (.cells (imgCells v x).toArray 26)).alloc (.cells (iv z16).toArray 27)).alloc (.cells (iv z16).toArray 27) = W0 := ⟨_, rfl⟩
  have b0 : Blk W0 w.heap.size 26 (imgCells v x).toArray := by rw [← hW0]; exact ((img_box w v x).alloc _).alloc _
  have b1 : Blk W0 (w.heap.size + 1) 27 (iv z16).toArray := by rw [← hW0]; exact (Blk.new1 _ _ _ _).alloc _
  have b2 : Blk W0 (w.heap.size + 2) 27 (iv z16).toArray := by rw [← hW0]; exact Blk.new2 _ _ _ _ _
  have K0 : Keep [] w W0 := by rw [← hW0]; exact (((Keep.refl [] w).alloc _).alloc _).alloc _
  have HIC : Hid ((imgCells v x).length = 4) := show _ = _ from rfl
  have HCI : Hid (∀ w', Keep [w.heap.size + 2] W0 w' → CellsAt w' w.heap.size 0 (imgCells v x)) := fun w' hk => (b0.keep hk (by simp)).cellsAt
  have HKW : Hid (∀ w', Keep [w.heap.size + 2] W0 w' → Keep [] w w') := fun w' hk => K0.trans hk (fun y hy hlt => by simp at hy; omega)
  have HFr := fun (i : Nat) (hi : i < 16) w' hk => Lib.hid (fresh_any v x k f t i w' (h.keep0 (w' := w') hk) he hi)
  have HW : Hid (((w.alloc (.cells (imgCells v x).toArray 26)).alloc (.cells #[.int .i64 0, .int .i64 0, .int .i64 0, .int .i64 0, .int .i64 0, .int .i64 0, .int .i64 0, .int .i64 0, .int .i64 0, .int .i64 0, .int .i64 0, .int .i64 0, .int .i64 0, .int .i64 0, .int .i64 0, .int .i64 0] 27)).alloc (.cells #[.int .i64 0, .int .i64 0, .int .i64 0, .int .i64 0, .int .i64 0, .int .i64 0, .int .i64 0, .int .i64 0, .int .i64 0, .int .i64 0, .int .i64 0, .int .i64 0, .int .i64 0, .int .i64 0, .int .i64 0, .int .i64 0] 27) = W0) := hW0
  have B1 := Lib.hid b1
  have B2 := Lib.hid b2
  have HZ := Lib.hid (setL_zero (clsE x k).new n)
  have HAA := Lib.hid (setL_all (clsE x k).new n)
  clear hW0 h he b0 b1 b2
  generalize hnw : (clsE x k).new = nw at *
  clear hnw
  generalize imgCells v x = il at *
  go_enter Tryd.func25, Tryd.ntmps25
  go_wp2_with (rw [HW.out])
  go_loopw [8] (fun i wr => ∃ q : Nat, q ≤ 16 ∧ i = .int .i64 q ∧ Blk wr (w.heap.size + 2) 27 (iv (setL nw n q)).toArray ∧ Keep [w.heap.size + 2] W0 wr) (fun i _ => 16 - (intOf i).toNat)
  case atStart => exact ⟨0, Nat.zero_le _, rfl, by rw [HZ.out]; exact B2.out, Keep.refl _ _⟩
  case round =>
    obtain ⟨q, hq, rfl, hb, hK⟩ := hrel
    by_cases hlt : q < 16
    · have p0 : (0 : Int) ≤ (q : Int) := by omega
      have p1 : (q : Int) < 16 := by omega
      have p2 : decide ((q : Int) < 16) = true := decide_eq_true p1
      have HFq := HFr q hlt wr (HKW.out _ hK)
      have hcI := Lib.hid (HCI.out wr hK)
      have hcc : ∀ w', Keep [] wr w' → w'.cell? ⟨w.heap.size + 2, q, none⟩ = some (.int .i64 (if nw.testBit q = true ∧ q < q then n else 0)) ∧ w'.frozen? ⟨w.heap.size + 2, q, none⟩ = false := fun w' hk => ⟨(hb.keep0 hk).at_ (by unfold iv; rw [List.getElem?_map, setL_get _ _ _ _ hlt]; rfl), (hb.keep0 hk).frozen q⟩
      have HB := Lib.hid hb
      have HK := Lib.hid hK
      clear hb hK
      generalize (if nw.testBit q = true ∧ q < q then n else 0) = z at *
      cases hbt : nw.testBit q with
      | false =>
        rw [hbt] at HFq
        have hs := setL_no nw n q hbt
        go_wp2_with (refine wpList_load_agg rfl 26 (.tmp 3) rfl rfl (cs := il) (by rw [HIC.out]; exact agg_image) hcI.out ?_)
        refine HFq.out.mono ?_
        rintro e w2 ⟨rfl, k2⟩
        have HB2 := Lib.hid (HB.out.keep0 k2)
        have HK2 := Lib.hid (HK.out.then k2)
        clear k2 hcc
        go_wp2
        go_roundw
        case rel => exact ⟨q + 1, by omega, by go_num, by rw [hs]; exact HB2.out, HK2.out⟩
        case measure => simp [intOf] <;> omega
      | true =>
        rw [hbt] at HFq
        have hs := setL_yes nw n q hlt hbt
        go_wp2_with (refine wpList_load_agg rfl 26 (.tmp 3) rfl rfl (cs := il) (by rw [HIC.out]; exact agg_image) hcI.out ?_)
        refine HFq.out.mono ?_
        rintro e w2 ⟨rfl, k2⟩
        have HB2 := Lib.hid (HB.out.keep0 k2)
        have HK2 := Lib.hid (HK.out.then k2)
        obtain ⟨c2, f2⟩ := hcc w2 k2
        clear k2 hcc
        go_wp2
        have bb := HB2.out.set_ q (.int .i64 n)
        rw [iv_set, ← hs] at bb
        have kk := HK2.out.setCell (p := ⟨w.heap.size + 2, q, none⟩) (by simp) (.int .i64 n)
        go_roundw
        case rel => exact ⟨q + 1, by omega, by go_num, bb, kk⟩
        case measure => simp [intOf] <;> omega
    · obtain rfl : q = 16 := by omega
      rw [HAA.out] at hb
      have HFN : Hid ((iv (farL nw n)).length = 16) := by show _ = _; rw [iv_len]; exact farL_len _ _
      have hone2 : Hid (∀ u ∈ iv (farL nw n), u.oneCell' = true) := iv_one _
      have hcB := Lib.hid hb.cellsAt
      have d0 := B1.out.keep hK (by simp)
      have HKE := Lib.hid (HKW.out _ hK)
      generalize hfn : iv (farL nw n) = fn at *
      have HFNE := Lib.hid hfn
      clear hfn hK hb
      go_wp2_with (first
        | (refine wpList_load_agg rfl 27 (.tmp 7) rfl rfl (cs := fn) (by rw [HFN.out]; exact agg_offs) hcB.out ?_)
        | refine stop_store 27 (.tmp 6) (.tmp 20) rfl ?_)
      constructor
      refine wpList_store_all rfl 27 (.tmp 6) (.tmp 20) rfl rfl rfl (vs := fn) (by rw [HFN.out]; exact agg_offs.2) d0 hone2.out ?_ ?_
      · rw [HFN.out]; rfl
      intro w9 d9 k9
      go_wp2
      refine bodyPost_ret (results_blk rfl _ rfl d9 (by rw [HFN.out]; exact agg_offs)) rfl ?_
      exact ⟨by rw [HFNE.out], HKE.out.trans k9 (fun y hy hlt => by simp at hy; omega)⟩

/-! The chapter's example. -/
theorem eqI_offs (d : Nat) : EqI Tryd.prog 27 16 (d + 2) := eqI_array Tryd.underlying27 Tryd.underlying3 (by kernel_rfl)
theorem offs_eql (L M : List Int) (hL : L.length = 16) (hM : M.length = 16) (w : World) : (binOp .eql 27 (.agg (iv L).toArray) (.agg (iv M).toArray)).run Tryd.prog w = .ok (.bool (decide (L = M))) w :=
  run_eql_I (eqI_offs 9998) L M hL hM w
theorem offs_guard (x y : Operand) (u v : Array Value) (w : World) : (eqGuard .eql 27 x y (.agg u) (.agg v)).run Tryd.prog w = .ok () w := guard_eql_I (by kernel_rfl) x y u v w
theorem exW_edw {x : Img} (hx : x = exW) (ho : x.Ok) : EdW x 0 := by
  subst hx
  exact ⟨exW_small, by decide, ho, exW_both, exW_to⟩
theorem exW_find : findR exW 0 = z16 := by kernel_rfl
theorem exW_findB : findB exW 0 = true := by kernel_rfl
theorem exW_common : commonR exW 0 = 0 := by kernel_rfl
theorem find_ex (v : ImgV) (w : World) (hTb : Tab w) (h : ImgAt w v exW) : Calls Tryd.prog 23 #[.agg (imgCells v exW).toArray, .int .i64 0] w fun e w' => e = .returned (.tuple #[.agg (iv z16).toArray, .bool true]) ∧ Keep [] w w' := by
  have := find_any v exW 0 w hTb h (exW_edw rfl h.ok)
  rw [exW_find, exW_findB] at this
  exact this
theorem common_ex (v : ImgV) (w : World) (hTb : Tab w) (h : ImgAt w v exW) : Calls Tryd.prog 28 #[.agg (imgCells v exW).toArray, .int .i64 0] w fun e w' => e = .returned (.tuple #[.int .i64 0, .bool true]) ∧ Keep [] w w' := by
  have := common_any v exW 0 w hTb h (exW_edw rfl h.ok)
  rw [exW_common, exW_findB] at this
  exact this
set_option maxRecDepth 100000 in
set_option maxHeartbeats 2000000 in
theorem alive20 (w : World) (hT : Tab w) : Calls Tryd.prog 26 #[] w fun e w' => e = .returned (.bool true) ∧ Keep [] w w' := by
  have HFL : Hid ((iv z16).length = 16) := show _ = _ from rfl
  have hone : Hid (∀ u ∈ iv z16, u.oneCell' = true) := iv_one _
  have hse := fun w => offs_eql z16 z16 rfl rfl w
  have hsg := fun x y u v w => offs_guard x y u v w
  have hbz : Hid (#[Value.int .i64 0, .int .i64 0, .int .i64 0, .int .i64 0, .int .i64 0, .int .i64 0, .int .i64 0, .int .i64 0, .int .i64 0, .int .i64 0, .int .i64 0, .int .i64 0, .int .i64 0, .int .i64 0, .int .i64 0, .int .i64 0] = (iv z16).toArray) := show _ = _ from rfl
  go_enter Tryd.func26, Tryd.ntmps26
  go_wp2_with fail
  refine (exw_any _).mono ?_
  rintro e w1 ⟨v, rfl, hI, k1⟩
  have HFi := Lib.hid (find_ex v w1 (hT.keep0 k1) hI)
  generalize imgCells v exW = il at *
  go_wp2_with fail
  refine HFi.out.mono ?_
  rintro e w2 ⟨rfl, k2⟩
  have HK2 := Lib.hid (k1.then k2)
  clear k1 k2 HFi hI
  go_wp2_with (refine stop_store 27 (.tmp 1) (.tmp 8) rfl ?_)
  constructor
  refine wpList_store_all rfl 27 (.tmp 1) (.tmp 8) rfl rfl rfl (vs := iv z16) (by rw [HFL.out]; exact agg_offs.2) (Blk.new _ _ _) hone.out ?_ ?_
  · rw [HFL.out]; rfl
  intro w3 d3 k3
  have k23 : Keep [] w2 w3 := ((Keep.refl [] w2).alloc _).trans k3 (fun y hy hlt => by simp at hy; omega)
  have HK3 := Lib.hid (HK2.out.then k23)
  have D3 := Lib.hid d3
  clear k3 k23 d3
  go_wp2_with fail
  refine (exw_any _).mono ?_
  rintro e w4 ⟨v4, rfl, hI, k4⟩
  have HCo := Lib.hid (common_ex v4 w4 (hT.keep0 (HK3.out.then k4)) hI)
  generalize imgCells v4 exW = il4 at *
  go_wp2_with fail
  refine HCo.out.mono ?_
  rintro e w5 ⟨rfl, k5⟩
  have HK5 := Lib.hid (HK3.out.then (k4.then k5))
  have hcA := Lib.hid (D3.out.keep0 (k4.then k5)).cellsAt
  clear k4 k5 HCo hI
  go_wp2_with (first
    | (refine wpList_agg_gd rfl 27 (.tmp 1) rfl rfl (cs := iv z16) (by rw [HFL.out]; exact agg_offs) hcA.out ?_)
    | rw [hbz.out])
  go_ret
  exact ⟨rfl, HK5.out⟩
end Go.Proofs.YtggjhjbcdnffnaaDoor

namespace Go.Proofs.YtggjhjbcdnffnaaDoor
open Go.RowKit

theorem findTo_off {fits : List Int → Bool} {s : Nat} {j : Nat} (hj : j < 16) (hb : s.testBit j = false) : ∀ k, (findTo fits s k)[j]? = some 0
  | 0 => by rw [findTo, farL_get s 16384 j hj, hb]; rfl
  | k + 1 => by
    rw [findTo]
    split
    · rename_i h
      have : k ≠ j := fun e => by rw [e, hb] at h; cases h
      rw [stepO, List.getElem?_set_ne this]
      exact findTo_off hj hb k
    · exact findTo_off hj hb k
theorem findTo_at {fits : List Int → Bool} {s : Nat} {q : Nat} (hq : q < 16) (hb : s.testBit q = true) (hl : (findTo fits s q).length = 16) : (findTo fits s 16)[q]? = some (leastO fits (findTo fits s q) q) := by
  have := findTo_stay (fits := fits) (s := s) q (q + 1) (by omega) (15 - q)
  rw [show q + 1 + (15 - q) = 16 by omega] at this
  rw [this, findTo, if_pos hb, stepO, List.getElem?_set_self (by omega)]
theorem edX_of {x : Img} (hx0 : (chkImg x).2 = 0) (ho : x.Ok) {k : Nat} (hk : k < x.edges.length) : ∃ f t, EdX x k f t := by
  obtain ⟨f, t, h1, hf, ht, hc, _⟩ := edge_w hx0 ho k hk
  exact ⟨f, t, h1, hc, hf, ht⟩
set_option maxRecDepth 100000 in
set_option maxHeartbeats 4000000 in
theorem offsetFinds_any (v : ImgV) (x : Img) (edge : Int) (w : World) (hTb : Tab w) (h : ImgAt w v x) :
    Calls Tryd.prog 5 #[.agg (imgCells v x).toArray, .int .i64 edge] w fun e w' => e = .returned (.bool true) ∧ Keep [] w w' := by
  have b0 := img_box w v x
  obtain ⟨W0, hW0⟩ : ∃ W0, w.alloc (.cells (imgCells v x).toArray 26) = W0 := ⟨_, rfl⟩
  rw [hW0] at b0
  have K0 : Keep [] w W0 := by rw [← hW0]; exact (Keep.refl [] w).alloc _
  have HC0 : Hid (∀ w', Keep [] W0 w' → CellsAt w' w.heap.size 0 (imgCells v x)) := fun w' hk => (b0.keep0 hk).cellsAt
  have HI1 : Hid (∀ w', Keep [] W0 w' → w'.cell? ⟨w.heap.size, 3, none⟩ = some (.slice v.ea x.edges.length v.ec)) := fun w' hk => by rw [(b0.keep0 hk).cell]; rfl
  have HIC : Hid ((imgCells v x).length = 4) := show _ = _ from rfl
  have HG := Lib.hid (great_any v x W0 (h.keep0 K0))
  have HR := fun w' hk' => Lib.hid (right_any v x w' (h.keep0 (K0.then hk')))
  have HAl := fun w' hk => Lib.hid (alive20 w' (hTb.keep0 (w' := w') hk))
  have hle63 := h.le
  unfold maxLen at hle63
  have HW := Lib.hid hW0
  have HI := Lib.hid h
  have HTB := Lib.hid hTb
  have HK0 := Lib.hid K0
  have hz16 : Hid ((iv z16).length = 16) := show _ = _ from rfl
  have hone0 : Hid (∀ u ∈ iv z16, u.oneCell' = true) := iv_one _
  have hbz : Hid (#[Value.int .i64 0, .int .i64 0, .int .i64 0, .int .i64 0, .int .i64 0, .int .i64 0, .int .i64 0, .int .i64 0, .int .i64 0, .int .i64 0, .int .i64 0, .int .i64 0, .int .i64 0, .int .i64 0, .int .i64 0, .int .i64 0] = (iv z16).toArray) := show _ = _ from rfl
  clear h hTb b0 hW0
  generalize hil : imgCells v x = il at *
  have HIL := Lib.hid hil
  clear hil
  go_enter Tryd.func5, Tryd.ntmps5
  go_wp2_with (first
    | rw [HW.out]
    | (refine wpList_load_agg rfl 26 (.tmp 2) rfl rfl (cs := il) (by rw [HIC.out]; exact agg_image) (HC0.out _ (Keep.refl _ _)) ?_))
  refine HG.out.mono ?_
  rintro e w2 ⟨rfl, k2⟩
  cases hg : greatImg x with
  | true =>
    go_wp2
    go_ret
    exact ⟨rfl, K0.then k2⟩
  | false =>
  have hc2 := Lib.hid (HC0.out w2 k2)
  go_wp2_with (refine wpList_agg_gd rfl 26 (.tmp 2) rfl rfl (cs := il) (by rw [HIC.out]; exact agg_image) hc2.out ?_)
  refine (HR _ k2).out.mono ?_
  rintro e w3 ⟨rfl, k3⟩
  have HK3 := Lib.hid (k2.then k3)
  clear k2 k3 hc2
  cases hr : ((chkImg x).2 == 0) with
  | false =>
    go_wp2
    go_ret
    exact ⟨rfl, K0.then HK3.out⟩
  | true =>
  have hx0 : (chkImg x).2 = 0 := by simpa using hr
  have hc3 := Lib.hid (HC0.out w3 HK3.out)
  clear HG HR hg hr
  by_cases hedge : edge < 0 ∨ (x.edges.length : Int) ≤ edge
  · have HFi := Lib.hid (find_out v x edge w3 (HTB.out.keep0 (K0.then HK3.out)) (HI.out.keep0 (K0.then HK3.out)) hedge)
    rw [HIL.out] at HFi
    go_wp2_with (refine wpList_load_agg rfl 26 (.tmp 2) rfl rfl (cs := il) (by rw [HIC.out]; exact agg_image) hc3.out ?_)
    refine HFi.out.mono ?_
    rintro e w4 ⟨rfl, k4⟩
    have HK4 := Lib.hid (HK3.out.then k4)
    clear k4 hc3 HFi
    go_wp2_with (refine stop_store 27 (.tmp 5) (.tmp 20) rfl ?_)
    constructor
    refine wpList_store_all rfl 27 (.tmp 5) (.tmp 20) rfl rfl rfl (vs := iv z16) (by rw [hz16.out]; exact agg_offs.2) (Blk.new _ _ _) hone0.out ?_ ?_
    · rw [hz16.out]; rfl
    intro w5 d5 k5
    have k45 : Keep [] w4 w5 := ((Keep.refl [] w4).alloc _).trans k5 (fun y hy hlt => by simp at hy; omega)
    have HK5 := Lib.hid (HK4.out.then k45)
    have D5 := Lib.hid d5
    clear k5 k45 d5
    have hF : ∀ w', Keep [] w5 w' → w'.cell? ⟨w.heap.size, 3, none⟩ = some (.slice v.ea x.edges.length v.ec) ∧ True := fun w' hk => ⟨HI1.out w' (HK5.out.then hk), trivial⟩
    have hse := fun w => offs_eql z16 z16 rfl rfl w
    have hsg := fun x y u v w => offs_guard x y u v w
    rcases hedge with he | he
    · have q0 : decide (edge < 0) = true := decide_eq_true he
      go_wp2
      refine wp_region_flow (Keep [] w5) rfl (by kernel_rfl) (Keep.refl _ _).drew ?_
      (refine fl_val (v := ?_) (by rfl) ?_ ?_; rotate_left; (intro w' hS; obtain ⟨f1,f2⟩ := hF w' hS; go_simp; with_reducible rfl); simp only [Act.put, List.setIfInBounds_toArray, List.set_cons_zero, List.set_cons_succ])
      (refine fl_val (v := ?_) (by rfl) ?_ ?_; rotate_left; (intro w' hS; obtain ⟨f1,f2⟩ := hF w' hS; go_simp; with_reducible rfl); simp only [Act.put, List.setIfInBounds_toArray, List.set_cons_zero, List.set_cons_succ])
      (refine fl_val (v := ?_) (by rfl) ?_ ?_; rotate_left; (intro w' hS; obtain ⟨f1,f2⟩ := hF w' hS; go_simp; with_reducible rfl); simp only [Act.put, List.setIfInBounds_toArray, List.set_cons_zero, List.set_cons_succ])
      (refine fl_off (by rfl) ?_; simp only [Act.put, List.setIfInBounds_toArray, List.set_cons_zero, List.set_cons_succ])
      (refine fl_off (by rfl) ?_; simp only [Act.put, List.setIfInBounds_toArray, List.set_cons_zero, List.set_cons_succ])
      (refine fl_off (by rfl) ?_; simp only [Act.put, List.setIfInBounds_toArray, List.set_cons_zero, List.set_cons_succ])
      (refine fl_off (by rfl) ?_; simp only [Act.put, List.setIfInBounds_toArray, List.set_cons_zero, List.set_cons_succ])
      (refine fl_off (by rfl) ?_; simp only [Act.put, List.setIfInBounds_toArray, List.set_cons_zero, List.set_cons_succ])
      (refine fl_val (v := ?_) (by rfl) ?_ ?_; rotate_left; (intro w' hS; obtain ⟨f1,f2⟩ := hF w' hS; go_simp; with_reducible rfl); simp only [Act.put, List.setIfInBounds_toArray, List.set_cons_zero, List.set_cons_succ])
      (refine fl_val (v := ?_) (by rfl) ?_ ?_; rotate_left; (intro w' hS; obtain ⟨f1,f2⟩ := hF w' hS; go_simp; with_reducible rfl); simp only [Act.put, List.setIfInBounds_toArray, List.set_cons_zero, List.set_cons_succ])
      (refine fl_off (by rfl) ?_; simp only [Act.put, List.setIfInBounds_toArray, List.set_cons_zero, List.set_cons_succ])
      (refine fl_off (by rfl) ?_; simp only [Act.put, List.setIfInBounds_toArray, List.set_cons_zero, List.set_cons_succ])
      (refine fl_off (by rfl) ?_; simp only [Act.put, List.setIfInBounds_toArray, List.set_cons_zero, List.set_cons_succ])
      (refine fl_off (by rfl) ?_; simp only [Act.put, List.setIfInBounds_toArray, List.set_cons_zero, List.set_cons_succ])
      (refine fl_off (by rfl) ?_; simp only [Act.put, List.setIfInBounds_toArray, List.set_cons_zero, List.set_cons_succ])
      (refine fl_off (by rfl) ?_; simp only [Act.put, List.setIfInBounds_toArray, List.set_cons_zero, List.set_cons_succ])
      (refine fl_off (by rfl) ?_; simp only [Act.put, List.setIfInBounds_toArray, List.set_cons_zero, List.set_cons_succ])
      (refine fl_val (v := ?_) (by rfl) ?_ ?_; rotate_left; (intro w' hS; obtain ⟨f1,f2⟩ := hF w' hS; go_simp; with_reducible rfl); simp only [Act.put, List.setIfInBounds_toArray, List.set_cons_zero, List.set_cons_succ])
      refine fl_nil ?_
      intro w6 hS
      have HK6 := Lib.hid (HK5.out.then hS)
      have hcA := Lib.hid (D5.out.keep0 hS).cellsAt
      have HALm := HAl w6 (K0.then HK6.out)
      clear hS hF
      go_wp2_with (first
        | (refine wpList_agg_gd rfl 27 (.tmp 5) rfl rfl (cs := iv z16) (by rw [hz16.out]; exact agg_offs) hcA.out ?_)
        | rw [hbz.out])
      refine HALm.out.mono ?_
      rintro e wl ⟨rfl, kl⟩
      go_wp2
      go_ret
      exact ⟨rfl, (K0.then HK6.out).then kl⟩
    · have q0 : decide (edge < 0) = false := decide_eq_false (by omega)
      have q1 : decide ((x.edges.length : Int) ≤ edge) = true := decide_eq_true he
      go_wp2
      refine wp_region_flow (Keep [] w5) rfl (by kernel_rfl) (Keep.refl _ _).drew ?_
      (refine fl_val (v := ?_) (by rfl) ?_ ?_; rotate_left; (intro w' hS; obtain ⟨f1,f2⟩ := hF w' hS; go_simp; with_reducible rfl); simp only [Act.put, List.setIfInBounds_toArray, List.set_cons_zero, List.set_cons_succ])
      (refine fl_val (v := ?_) (by rfl) ?_ ?_; rotate_left; (intro w' hS; obtain ⟨f1,f2⟩ := hF w' hS; go_simp; with_reducible rfl); simp only [Act.put, List.setIfInBounds_toArray, List.set_cons_zero, List.set_cons_succ])
      (refine fl_val (v := ?_) (by rfl) ?_ ?_; rotate_left; (intro w' hS; obtain ⟨f1,f2⟩ := hF w' hS; go_simp; with_reducible rfl); simp only [Act.put, List.setIfInBounds_toArray, List.set_cons_zero, List.set_cons_succ])
      (refine fl_val (v := ?_) (by rfl) ?_ ?_; rotate_left; (intro w' hS; obtain ⟨f1,f2⟩ := hF w' hS; go_simp; with_reducible rfl); simp only [Act.put, List.setIfInBounds_toArray, List.set_cons_zero, List.set_cons_succ])
      (refine fl_val (v := ?_) (by rfl) ?_ ?_; rotate_left; (intro w' hS; obtain ⟨f1,f2⟩ := hF w' hS; go_simp; with_reducible rfl); simp only [Act.put, List.setIfInBounds_toArray, List.set_cons_zero, List.set_cons_succ])
      (refine fl_val (v := ?_) (by rfl) ?_ ?_; rotate_left; (intro w' hS; obtain ⟨f1,f2⟩ := hF w' hS; go_simp; with_reducible rfl); simp only [Act.put, List.setIfInBounds_toArray, List.set_cons_zero, List.set_cons_succ])
      (refine fl_val (v := ?_) (by rfl) ?_ ?_; rotate_left; (intro w' hS; obtain ⟨f1,f2⟩ := hF w' hS; go_simp; with_reducible rfl); simp only [Act.put, List.setIfInBounds_toArray, List.set_cons_zero, List.set_cons_succ])
      (refine fl_val (v := ?_) (by rfl) ?_ ?_; rotate_left; (intro w' hS; obtain ⟨f1,f2⟩ := hF w' hS; go_simp; with_reducible rfl); simp only [Act.put, List.setIfInBounds_toArray, List.set_cons_zero, List.set_cons_succ])
      (refine fl_val (v := ?_) (by rfl) ?_ ?_; rotate_left; (intro w' hS; obtain ⟨f1,f2⟩ := hF w' hS; go_simp; with_reducible rfl); simp only [Act.put, List.setIfInBounds_toArray, List.set_cons_zero, List.set_cons_succ])
      (refine fl_val (v := ?_) (by rfl) ?_ ?_; rotate_left; (intro w' hS; obtain ⟨f1,f2⟩ := hF w' hS; go_simp; with_reducible rfl); simp only [Act.put, List.setIfInBounds_toArray, List.set_cons_zero, List.set_cons_succ])
      (refine fl_off (by rfl) ?_; simp only [Act.put, List.setIfInBounds_toArray, List.set_cons_zero, List.set_cons_succ])
      (refine fl_off (by rfl) ?_; simp only [Act.put, List.setIfInBounds_toArray, List.set_cons_zero, List.set_cons_succ])
      (refine fl_off (by rfl) ?_; simp only [Act.put, List.setIfInBounds_toArray, List.set_cons_zero, List.set_cons_succ])
      (refine fl_off (by rfl) ?_; simp only [Act.put, List.setIfInBounds_toArray, List.set_cons_zero, List.set_cons_succ])
      (refine fl_off (by rfl) ?_; simp only [Act.put, List.setIfInBounds_toArray, List.set_cons_zero, List.set_cons_succ])
      (refine fl_off (by rfl) ?_; simp only [Act.put, List.setIfInBounds_toArray, List.set_cons_zero, List.set_cons_succ])
      (refine fl_off (by rfl) ?_; simp only [Act.put, List.setIfInBounds_toArray, List.set_cons_zero, List.set_cons_succ])
      (refine fl_val (v := ?_) (by rfl) ?_ ?_; rotate_left; (intro w' hS; obtain ⟨f1,f2⟩ := hF w' hS; go_simp; with_reducible rfl); simp only [Act.put, List.setIfInBounds_toArray, List.set_cons_zero, List.set_cons_succ])
      refine fl_nil ?_
      intro w6 hS
      have HK6 := Lib.hid (HK5.out.then hS)
      have hcA := Lib.hid (D5.out.keep0 hS).cellsAt
      have HALm := HAl w6 (K0.then HK6.out)
      clear hS hF
      go_wp2_with (first
        | (refine wpList_agg_gd rfl 27 (.tmp 5) rfl rfl (cs := iv z16) (by rw [hz16.out]; exact agg_offs) hcA.out ?_)
        | rw [hbz.out])
      refine HALm.out.mono ?_
      rintro e wl ⟨rfl, kl⟩
      go_wp2
      go_ret
      exact ⟨rfl, (K0.then HK6.out).then kl⟩
  · obtain ⟨k, rfl⟩ : ∃ k : Nat, edge = (k : Int) := ⟨edge.toNat, by omega⟩
    have hk : k < x.edges.length := by omega
    obtain ⟨f, t, hX⟩ := edX_of hx0 HI.out.ok hk
    have hE := edW_of hx0 HI.out.ok hk
    have HFi := Lib.hid (find_any v x k w3 (HTB.out.keep0 (K0.then HK3.out)) (HI.out.keep0 (K0.then HK3.out)) hE)
    have HAll := fun w' hk => Lib.hid (all20_any v x k f t 16384 w' (HI.out.keep0 (w' := w') hk) hX)
    have HFt := fun (N : List Int) (hN : OffOk N) w' hk => Lib.hid (fits20_any v x k N w' (HTB.out.keep0 (w' := w') hk) (HI.out.keep0 hk) hE hN)
    have HFr := fun (i : Nat) (hi : i < 16) w' hk => Lib.hid (fresh_any v x k f t i w' (HI.out.keep0 (w' := w') hk) hX hi)
    have hFR : findR x k = if fitsB x k (farL (clsE x k).new 16384) = true then findTo (fitsB x k) (clsE x k).new 16 else z16 := rfl
    have hBK : findB x k = fitsB x k (farL (clsE x k).new 16384) := rfl
    have hflo := farL_ok (clsE x k).new (z := 16384) (by omega)
    have hfl := hflo
    rw [HIL.out] at HFi HAll HFt HFr
    have q0 : decide ((k : Int) < 0) = false := decide_eq_false (by omega)
    have q1 : decide ((x.edges.length : Int) ≤ (k : Int)) = false := decide_eq_false (by omega)
    have q1n : decide (x.edges.length ≤ k) = false := decide_eq_false (by omega)
    clear hX hE hx0 hedge
    generalize (clsE x k).new = nw at *
    generalize fitsB x k = P at *
    generalize findR x k = fr at *
    generalize findB x k = fb at *
    have hfrl : fr.length = 16 := by
      rw [hFR]
      split
      · rename_i hh
        exact (findTo_ok hh 16).1.1
      · rfl
    have HFRL : Hid ((iv fr).length = 16) := by show _ = _; rw [iv_len]; exact hfrl
    have HFR0 := Lib.hid hFR
    have HBK0 := Lib.hid hBK
    clear hFR hBK
    have hone : Hid (∀ u ∈ iv fr, u.oneCell' = true) := iv_one _
    go_wp2_with (refine wpList_load_agg rfl 26 (.tmp 2) rfl rfl (cs := il) (by rw [HIC.out]; exact agg_image) hc3.out ?_)
    refine HFi.out.mono ?_
    rintro e w4 ⟨rfl, k4⟩
    have HK4 := Lib.hid (HK3.out.then k4)
    clear k4 hc3 HFi
    go_wp2_with (refine stop_store 27 (.tmp 5) (.tmp 20) rfl ?_)
    constructor
    refine wpList_store_all rfl 27 (.tmp 5) (.tmp 20) rfl rfl rfl (vs := iv fr) (by rw [HFRL.out]; exact agg_offs.2) (Blk.new _ _ _) hone.out ?_ ?_
    · rw [HFRL.out]; rfl
    intro w5 d5 k5
    have k45 : Keep [] w4 w5 := ((Keep.refl [] w4).alloc _).trans k5 (fun y hy hlt => by simp at hy; omega)
    have HK5 := Lib.hid (HK4.out.then k45)
    have D5 := Lib.hid d5
    clear k5 k45 d5
    have hF : ∀ w', Keep [] w5 w' → w'.cell? ⟨w.heap.size, 3, none⟩ = some (.slice v.ea x.edges.length v.ec) ∧ True := fun w' hk => ⟨HI1.out w' (HK5.out.then hk), trivial⟩
    have hCA : ∀ w', Keep [] w5 w' → CellsAt w' w.heap.size 0 il := fun w' hk => HC0.out w' (HK5.out.then hk)
    have HKX : ∀ w', Keep [] w5 w' → Keep [] w w' := fun w' hk => (K0.then HK5.out).then hk
    cases hfb : P (farL nw 16384) with
    | false =>
      have hFR := HFR0.out
      have hBK := HBK0.out
      clear HFR0 HBK0
      rw [hfb, if_neg (by simp)] at hFR
      rw [hfb] at hBK
      subst hFR hBK
      have hse := fun w => offs_eql z16 z16 rfl rfl w
      have hsg := fun x y u v w => offs_guard x y u v w
      go_wp2
      refine wp_region_flow (Keep [] w5) rfl (by kernel_rfl) (Keep.refl _ _).drew ?_
      (refine fl_val (v := ?_) (by rfl) ?_ ?_; rotate_left; (intro w' hS; obtain ⟨f1,f2⟩ := hF w' hS; go_simp; with_reducible rfl); simp only [Act.put, List.setIfInBounds_toArray, List.set_cons_zero, List.set_cons_succ])
      (refine fl_val (v := ?_) (by rfl) ?_ ?_; rotate_left; (intro w' hS; obtain ⟨f1,f2⟩ := hF w' hS; go_simp; with_reducible rfl); simp only [Act.put, List.setIfInBounds_toArray, List.set_cons_zero, List.set_cons_succ])
      (refine fl_val (v := ?_) (by rfl) ?_ ?_; rotate_left; (intro w' hS; obtain ⟨f1,f2⟩ := hF w' hS; go_simp; with_reducible rfl); simp only [Act.put, List.setIfInBounds_toArray, List.set_cons_zero, List.set_cons_succ])
      (refine fl_val (v := ?_) (by rfl) ?_ ?_; rotate_left; (intro w' hS; obtain ⟨f1,f2⟩ := hF w' hS; go_simp; with_reducible rfl); simp only [Act.put, List.setIfInBounds_toArray, List.set_cons_zero, List.set_cons_succ])
      (refine fl_val (v := ?_) (by rfl) ?_ ?_; rotate_left; (intro w' hS; obtain ⟨f1,f2⟩ := hF w' hS; go_simp; with_reducible rfl); simp only [Act.put, List.setIfInBounds_toArray, List.set_cons_zero, List.set_cons_succ])
      (refine fl_val (v := ?_) (by rfl) ?_ ?_; rotate_left; (intro w' hS; obtain ⟨f1,f2⟩ := hF w' hS; go_simp; with_reducible rfl); simp only [Act.put, List.setIfInBounds_toArray, List.set_cons_zero, List.set_cons_succ])
      (refine fl_val (v := ?_) (by rfl) ?_ ?_; rotate_left; (intro w' hS; obtain ⟨f1,f2⟩ := hF w' hS; go_simp; with_reducible rfl); simp only [Act.put, List.setIfInBounds_toArray, List.set_cons_zero, List.set_cons_succ])
      (refine fl_val (v := ?_) (by rfl) ?_ ?_; rotate_left; (intro w' hS; obtain ⟨f1,f2⟩ := hF w' hS; go_simp; with_reducible rfl); simp only [Act.put, List.setIfInBounds_toArray, List.set_cons_zero, List.set_cons_succ])
      (refine fl_val (v := ?_) (by rfl) ?_ ?_; rotate_left; (intro w' hS; obtain ⟨f1,f2⟩ := hF w' hS; go_simp; with_reducible rfl); simp only [Act.put, List.setIfInBounds_toArray, List.set_cons_zero, List.set_cons_succ])
      (refine fl_val (v := ?_) (by rfl) ?_ ?_; rotate_left; (intro w' hS; obtain ⟨f1,f2⟩ := hF w' hS; go_simp; with_reducible rfl); simp only [Act.put, List.setIfInBounds_toArray, List.set_cons_zero, List.set_cons_succ])
      refine fl_agg 26 (.tmp 2) il rfl rfl rfl (by rw [HIC.out]; exact agg_image) hCA ?_
      simp only [Act.put, List.setIfInBounds_toArray, List.set_cons_zero, List.set_cons_succ]
      (refine fl_val (v := ?_) (by rfl) ?_ ?_; rotate_left; (intro w' hS; obtain ⟨f1,f2⟩ := hF w' hS; go_simp; with_reducible rfl); simp only [Act.put, List.setIfInBounds_toArray, List.set_cons_zero, List.set_cons_succ])
      refine fl_agg 26 (.tmp 2) il rfl rfl rfl (by rw [HIC.out]; exact agg_image) hCA ?_
      simp only [Act.put, List.setIfInBounds_toArray, List.set_cons_zero, List.set_cons_succ]
      (refine fl_val (v := ?_) (by rfl) ?_ ?_; rotate_left; (intro w' hS; obtain ⟨f1,f2⟩ := hF w' hS; go_simp; with_reducible rfl); simp only [Act.put, List.setIfInBounds_toArray, List.set_cons_zero, List.set_cons_succ])
      refine fl_call (f := 25) (v := .agg (iv (farL nw 16384)).toArray) (by rfl) rfl (by simp only [List.map_toArray, List.map_cons, List.map_nil]; rfl) Tryd.func25 (by kernel_rfl) (by kernel_rfl) (fun w' hS => ((HAll w' (HKX w' hS)).out.mono (fun e w'' h => ⟨h.1, hS.then h.2⟩))) ?_; simp only [Act.put, List.setIfInBounds_toArray, List.set_cons_zero, List.set_cons_succ]
      refine fl_call (f := 24) (v := .bool false) (by rfl) rfl (by simp only [List.map_toArray, List.map_cons, List.map_nil]; rfl) Tryd.func24 (by kernel_rfl) (by kernel_rfl) (fun w' hS => ((HFt (farL nw 16384) hflo w' (HKX w' hS)).out.mono (fun e w'' h => ⟨by rw [h.1, hfb], hS.then h.2⟩))) ?_; simp only [Act.put, List.setIfInBounds_toArray, List.set_cons_zero, List.set_cons_succ]
      (refine fl_val (v := ?_) (by rfl) ?_ ?_; rotate_left; (intro w' hS; obtain ⟨f1,f2⟩ := hF w' hS; go_simp; with_reducible rfl); simp only [Act.put, List.setIfInBounds_toArray, List.set_cons_zero, List.set_cons_succ])
      (refine fl_val (v := ?_) (by rfl) ?_ ?_; rotate_left; (intro w' hS; obtain ⟨f1,f2⟩ := hF w' hS; go_simp; with_reducible rfl); simp only [Act.put, List.setIfInBounds_toArray, List.set_cons_zero, List.set_cons_succ])
      refine fl_nil ?_
      intro w6 hS
      have HK6 := Lib.hid (HK5.out.then hS)
      have hcA := Lib.hid (D5.out.keep0 hS).cellsAt
      have HALm := HAl w6 (K0.then HK6.out)
      clear hS hF hCA HKX HAll HFt HFr
      go_wp2_with (first
        | (refine wpList_agg_gd rfl 27 (.tmp 5) rfl rfl (cs := iv z16) (by rw [hz16.out]; exact agg_offs) hcA.out ?_)
        | rw [hbz.out])
      refine HALm.out.mono ?_
      rintro e wl ⟨rfl, kl⟩
      go_wp2
      go_ret
      exact ⟨rfl, (K0.then HK6.out).then kl⟩
    | true =>
      have hFR := HFR0.out
      have hBK := HBK0.out
      clear HFR0 HBK0
      rw [hfb, if_pos rfl] at hFR
      rw [hfb] at hBK
      subst hBK
      have hok16 := findTo_ok (fits := P) (s := nw) hfb 16
      rw [← hFR] at hok16
      have HFR := Lib.hid hFR
      clear hFR
      go_wp2
      refine wp_region_flow (Keep [] w5) rfl (by kernel_rfl) (Keep.refl _ _).drew ?_
      (refine fl_val (v := ?_) (by rfl) ?_ ?_; rotate_left; (intro w' hS; obtain ⟨f1,f2⟩ := hF w' hS; go_simp; with_reducible rfl); simp only [Act.put, List.setIfInBounds_toArray, List.set_cons_zero, List.set_cons_succ])
      (refine fl_val (v := ?_) (by rfl) ?_ ?_; rotate_left; (intro w' hS; obtain ⟨f1,f2⟩ := hF w' hS; go_simp; with_reducible rfl); simp only [Act.put, List.setIfInBounds_toArray, List.set_cons_zero, List.set_cons_succ])
      (refine fl_val (v := ?_) (by rfl) ?_ ?_; rotate_left; (intro w' hS; obtain ⟨f1,f2⟩ := hF w' hS; go_simp; with_reducible rfl); simp only [Act.put, List.setIfInBounds_toArray, List.set_cons_zero, List.set_cons_succ])
      (refine fl_val (v := ?_) (by rfl) ?_ ?_; rotate_left; (intro w' hS; obtain ⟨f1,f2⟩ := hF w' hS; go_simp; with_reducible rfl); simp only [Act.put, List.setIfInBounds_toArray, List.set_cons_zero, List.set_cons_succ])
      (refine fl_val (v := ?_) (by rfl) ?_ ?_; rotate_left; (intro w' hS; obtain ⟨f1,f2⟩ := hF w' hS; go_simp; with_reducible rfl); simp only [Act.put, List.setIfInBounds_toArray, List.set_cons_zero, List.set_cons_succ])
      (refine fl_val (v := ?_) (by rfl) ?_ ?_; rotate_left; (intro w' hS; obtain ⟨f1,f2⟩ := hF w' hS; go_simp; with_reducible rfl); simp only [Act.put, List.setIfInBounds_toArray, List.set_cons_zero, List.set_cons_succ])
      (refine fl_val (v := ?_) (by rfl) ?_ ?_; rotate_left; (intro w' hS; obtain ⟨f1,f2⟩ := hF w' hS; go_simp; with_reducible rfl); simp only [Act.put, List.setIfInBounds_toArray, List.set_cons_zero, List.set_cons_succ])
      (refine fl_val (v := ?_) (by rfl) ?_ ?_; rotate_left; (intro w' hS; obtain ⟨f1,f2⟩ := hF w' hS; go_simp; with_reducible rfl); simp only [Act.put, List.setIfInBounds_toArray, List.set_cons_zero, List.set_cons_succ])
      (refine fl_val (v := ?_) (by rfl) ?_ ?_; rotate_left; (intro w' hS; obtain ⟨f1,f2⟩ := hF w' hS; go_simp; with_reducible rfl); simp only [Act.put, List.setIfInBounds_toArray, List.set_cons_zero, List.set_cons_succ])
      (refine fl_val (v := ?_) (by rfl) ?_ ?_; rotate_left; (intro w' hS; obtain ⟨f1,f2⟩ := hF w' hS; go_simp; with_reducible rfl); simp only [Act.put, List.setIfInBounds_toArray, List.set_cons_zero, List.set_cons_succ])
      refine fl_agg 26 (.tmp 2) il rfl rfl rfl (by rw [HIC.out]; exact agg_image) hCA ?_
      simp only [Act.put, List.setIfInBounds_toArray, List.set_cons_zero, List.set_cons_succ]
      (refine fl_val (v := ?_) (by rfl) ?_ ?_; rotate_left; (intro w' hS; obtain ⟨f1,f2⟩ := hF w' hS; go_simp; with_reducible rfl); simp only [Act.put, List.setIfInBounds_toArray, List.set_cons_zero, List.set_cons_succ])
      refine fl_agg 26 (.tmp 2) il rfl rfl rfl (by rw [HIC.out]; exact agg_image) hCA ?_
      simp only [Act.put, List.setIfInBounds_toArray, List.set_cons_zero, List.set_cons_succ]
      (refine fl_val (v := ?_) (by rfl) ?_ ?_; rotate_left; (intro w' hS; obtain ⟨f1,f2⟩ := hF w' hS; go_simp; with_reducible rfl); simp only [Act.put, List.setIfInBounds_toArray, List.set_cons_zero, List.set_cons_succ])
      refine fl_call (f := 25) (v := .agg (iv (farL nw 16384)).toArray) (by rfl) rfl (by simp only [List.map_toArray, List.map_cons, List.map_nil]; rfl) Tryd.func25 (by kernel_rfl) (by kernel_rfl) (fun w' hS => ((HAll w' (HKX w' hS)).out.mono (fun e w'' h => ⟨h.1, hS.then h.2⟩))) ?_; simp only [Act.put, List.setIfInBounds_toArray, List.set_cons_zero, List.set_cons_succ]
      refine fl_call (f := 24) (v := .bool true) (by rfl) rfl (by simp only [List.map_toArray, List.map_cons, List.map_nil]; rfl) Tryd.func24 (by kernel_rfl) (by kernel_rfl) (fun w' hS => ((HFt (farL nw 16384) hflo w' (HKX w' hS)).out.mono (fun e w'' h => ⟨by rw [h.1, hfb], hS.then h.2⟩))) ?_; simp only [Act.put, List.setIfInBounds_toArray, List.set_cons_zero, List.set_cons_succ]
      (refine fl_val (v := ?_) (by rfl) ?_ ?_; rotate_left; (intro w' hS; obtain ⟨f1,f2⟩ := hF w' hS; go_simp; with_reducible rfl); simp only [Act.put, List.setIfInBounds_toArray, List.set_cons_zero, List.set_cons_succ])
      (refine fl_val (v := ?_) (by rfl) ?_ ?_; rotate_left; (intro w' hS; obtain ⟨f1,f2⟩ := hF w' hS; go_simp; with_reducible rfl); simp only [Act.put, List.setIfInBounds_toArray, List.set_cons_zero, List.set_cons_succ])
      refine fl_nil ?_
      intro w6 hS
      have HS6 := Lib.hid hS
      have hcA := Lib.hid (D5.out.keep0 hS).cellsAt
      have hcI := Lib.hid (hCA w6 hS)
      have HFf := HFt fr hok16.1 w6 (HKX w6 hS)
      rw [hok16.2] at HFf
      clear hS hF
      go_wp2_with (first
        | (refine wpList_agg_gd rfl 27 (.tmp 5) rfl rfl (cs := iv fr) (by rw [HFRL.out]; exact agg_offs) hcA.out ?_)
        | (refine wpList_agg_gd rfl 26 (.tmp 2) rfl rfl (cs := il) (by rw [HIC.out]; exact agg_image) hcI.out ?_))
      refine HFf.out.mono ?_
      rintro e w7 ⟨rfl, k7⟩
      have HS7 := Lib.hid (HS6.out.then k7)
      have hcI7 := Lib.hid (hCA w7 HS7.out)
      have HAl7 := HAll w7 (HKX w7 HS7.out)
      clear k7 hcA hcI HFf HAll
      go_wp2_with (refine wpList_load_agg rfl 26 (.tmp 2) rfl rfl (cs := il) (by rw [HIC.out]; exact agg_image) hcI7.out ?_)
      refine HAl7.out.mono ?_
      rintro e w8 ⟨rfl, k8⟩
      have HS8 := Lib.hid (HS7.out.then k8)
      have HFLL : Hid ((iv (farL nw 16384)).length = 16) := by show _ = _; rw [iv_len]; exact hfl.1
      have honef : Hid (∀ u ∈ iv (farL nw 16384), u.oneCell' = true) := iv_one _
      clear k8 hcI7 HAl7
      go_wp2_with (refine stop_store 27 (.tmp 7) (.tmp 61) rfl ?_)
      constructor
      refine wpList_store_all rfl 27 (.tmp 7) (.tmp 61) rfl rfl rfl (vs := iv (farL nw 16384)) (by rw [HFLL.out]; exact agg_offs.2) (Blk.new _ _ _) honef.out ?_ ?_
      · rw [HFLL.out]; rfl
      intro w9 d9 k9
      have k89 : Keep [] w8 w9 := ((Keep.refl [] w8).alloc _).trans k9 (fun y hy hlt => by simp at hy; omega)
      have HS9 := Lib.hid (HS8.out.then k89)
      have D9 := Lib.hid d9
      have hg5 := D5.out.lt
      have hz85 := HS8.out.size
      have HNE : Hid (w4.heap.size ≠ w8.heap.size) := by show _ ≠ _; omega
      have HG7 : Hid (∀ w', Keep [w8.heap.size] w9 w' → Keep [] w5 w') := fun w' hk => HS9.out.trans hk (fun y hy hlt => by simp at hy; omega)
      clear k9 k89 d9 hz85 hg5 HFLL honef
      go_wp2
      go_loopw [8] (fun i wr => ∃ q : Nat, q ≤ 16 ∧ i = .int .i64 q ∧ Blk wr w8.heap.size 27 (iv (findTo P nw q)).toArray ∧ Keep [w8.heap.size] w9 wr) (fun i _ => 16 - (intOf i).toNat)
      case atStart => exact ⟨0, Nat.zero_le _, rfl, D9.out, Keep.refl _ _⟩
      case round =>
        obtain ⟨q, hq, rfl, hb, hK⟩ := hrel
        by_cases hlt : q < 16
        · have p0 : (0 : Int) ≤ (q : Int) := by omega
          have p1 : (q : Int) < 16 := by omega
          have p2 : decide ((q : Int) < 16) = true := decide_eq_true p1
          have hokq := findTo_ok (fits := P) (s := nw) hfb q
          have HFq := HFr q hlt wr (HKX _ (HG7.out _ hK))
          have hcI := Lib.hid (hCA wr (HG7.out _ hK))
          have hc5 : ∀ w', Keep [w8.heap.size] w9 w' → ∀ z, fr[q]? = some z → w'.cell? ⟨w4.heap.size, q, none⟩ = some (.int .i64 z) := fun w' hk z hz => (D5.out.keep0 (HG7.out _ hk)).at_ (by unfold iv; rw [List.getElem?_map, hz]; rfl)
          have HB := Lib.hid hb
          have HK := Lib.hid hK
          clear hb hK
          cases hbt : nw.testBit q with
          | false =>
            rw [hbt] at HFq
            have hoff := findTo_off (fits := P) hlt hbt 16
            rw [← HFR.out] at hoff
            have hs : Hid (findTo P nw (q + 1) = findTo P nw q) := by show _ = _; rw [findTo, if_neg (by rw [hbt]; simp)]
            go_wp2_with (refine wpList_load_agg rfl 26 (.tmp 2) rfl rfl (cs := il) (by rw [HIC.out]; exact agg_image) hcI.out ?_)
            refine HFq.out.mono ?_
            rintro e wa ⟨rfl, ka⟩
            have HB2 := Lib.hid (HB.out.keep0 ka)
            have HK2 := Lib.hid (HK.out.then ka)
            have cz := hc5 wa HK2.out 0 hoff
            clear ka hc5 hcI HFq
            go_wp2
            go_roundw
            case rel => exact ⟨q + 1, by omega, by go_num, by rw [hs.out]; exact HB2.out, HK2.out⟩
            case measure => simp [intOf] <;> omega
          | true =>
            rw [hbt] at HFq
            have hat := findTo_at (fits := P) hlt hbt hokq.1.1
            rw [← HFR.out] at hat
            obtain ⟨s1, s2, s3⟩ := leastO_spec hokq.1 hokq.2 q
            have hs : Hid (findTo P nw (q + 1) = (findTo P nw q).set q (leastO P (findTo P nw q) q)) := by show _ = _; rw [findTo, if_pos hbt]; rfl
            have s2' : P (findTo P nw (q + 1)) = true := by rw [hs.out]; exact s2
            have hokn := findTo_ok (fits := P) (s := nw) hfb (q + 1)
            have hlenq := hokq.1.1
            have hdn : ∀ z, 0 < z → z ≤ 16384 → OffOk ((findTo P nw q).set q (z - 1)) := fun z h0 h1 => hokq.1.set q (by omega)
            have hgq := hokq.1.get q
            have hgc : (findTo P nw q)[q]? = some ((findTo P nw q).getD q 0) := by rw [List.getD_eq_getElem?_getD, List.getElem?_eq_getElem (by omega)]; rfl
            clear hokq s2
            generalize hzl : leastO P (findTo P nw q) q = z at *
            go_wp2_with (refine wpList_load_agg rfl 26 (.tmp 2) rfl rfl (cs := il) (by rw [HIC.out]; exact agg_image) hcI.out ?_)
            refine HFq.out.mono ?_
            rintro e wa ⟨rfl, ka⟩
            have HB2 := Lib.hid (HB.out.keep0 ka)
            have HK2 := Lib.hid (HK.out.then ka)
            have cz := hc5 wa HK2.out z hat
            have cm := HB2.out.at_ (j := q) (u := .int .i64 ((findTo P nw q).getD q 0)) (by unfold iv; rw [List.getElem?_map, hgc]; rfl)
            have cf := HB2.out.frozen q
            clear ka hcI HFq
            go_wp2_with (refine stop_at 80 rfl ?_)
            constructor
            have bb := HB2.out.set_ q (.int .i64 z)
            rw [iv_set, ← hs.out] at bb
            have kk := HK2.out.setCell (p := ⟨w8.heap.size, q, none⟩) (by simp) (.int .i64 z)
            generalize World.setCell wa ⟨w8.heap.size, q, none⟩ (.int .i64 z) = wb at *
            have HBB := Lib.hid bb
            have HKB := Lib.hid kk
            have hcIb := Lib.hid (hCA wb (HG7.out _ kk))
            have hcLb := Lib.hid bb.cellsAt
            have HFb := HFt _ hokn.1 wb (HKX _ (HG7.out _ kk))
            rw [s2'] at HFb
            have HNL : Hid ((iv (findTo P nw (q + 1))).length = 16) := by show _ = _; rw [iv_len]; exact hokn.1.1
            clear bb kk cz cm cf
            refine wpList_load_agg rfl 26 (.tmp 2) rfl rfl (cs := il) (by rw [HIC.out]; exact agg_image) hcIb.out ?_
            go_wp2_with (refine wpList_load_agg rfl 27 (.tmp 7) rfl rfl (cs := iv (findTo P nw (q + 1))) (by rw [HNL.out]; exact agg_offs) hcLb.out ?_)
            refine HFb.out.mono ?_
            rintro e wc ⟨rfl, kc⟩
            have HBC := Lib.hid (HBB.out.keep0 kc)
            have HKC := Lib.hid (HKB.out.then kc)
            have cz := hc5 wc HKC.out z hat
            clear kc hcIb hcLb HFb
            rcases Int.lt_or_le 0 z with h0 | h0
            · have r0 : decide (0 < z) = true := decide_eq_true h0
              have hne : (findTo P nw (q + 1)).set q (z - 1) = (findTo P nw q).set q (z - 1) := by rw [hs.out, set_set]
              have hback : ((findTo P nw q).set q (z - 1)).set q z = findTo P nw (q + 1) := by rw [set_set, hs.out]
              have hPf : P ((findTo P nw q).set q (z - 1)) = false := by
                rcases s3 with h1 | h1
                · omega
                · exact h1
              have hokd := hdn z h0 s1.2
              have cm := HBC.out.at_ (j := q) (u := .int .i64 z) (by unfold iv; rw [List.getElem?_map, hs.out, List.getElem?_set_self (by omega)]; rfl)
              have cf := HBC.out.frozen q
              have hw1 : IntKind.i64.wrap (z - 1) = z - 1 := IntWalk.i64_in _ (by omega)
              go_wp2_with (refine stop_at 94 rfl ?_)
              constructor
              have bb := HBC.out.set_ q (.int .i64 (z - 1))
              rw [iv_set, hne] at bb
              have kk := HKC.out.setCell (p := ⟨w8.heap.size, q, none⟩) (by simp) (.int .i64 (z - 1))
              generalize World.setCell wc ⟨w8.heap.size, q, none⟩ (.int .i64 (z - 1)) = wd at *
              have HBD := Lib.hid bb
              have HKD := Lib.hid kk
              have hcId := Lib.hid (hCA wd (HG7.out _ kk))
              have hcLd := Lib.hid bb.cellsAt
              have HFd := HFt _ hokd wd (HKX _ (HG7.out _ kk))
              rw [hPf] at HFd
              have HNM : Hid ((iv ((findTo P nw q).set q (z - 1))).length = 16) := by show _ = _; rw [iv_len, List.length_set]; exact hlenq
              clear bb kk cz cm cf
              generalize hlm : iv ((findTo P nw q).set q (z - 1)) = lm at *
              have HLM := Lib.hid hlm
              clear hlm
              refine wpList_load_agg rfl 26 (.tmp 2) rfl rfl (cs := il) (by rw [HIC.out]; exact agg_image) hcId.out ?_
              go_wp2_with (refine wpList_load_agg rfl 27 (.tmp 7) rfl rfl (cs := lm) (by rw [HNM.out]; exact agg_offs) hcLd.out ?_)
              refine HFd.out.mono ?_
              rintro e we ⟨rfl, ke⟩
              have HBE := Lib.hid (HBD.out.keep0 ke)
              have HKE := Lib.hid (HKD.out.then ke)
              have cm := HBE.out.at_ (j := q) (u := .int .i64 (z - 1)) (by rw [← HLM.out]; unfold iv; rw [List.getElem?_map, List.getElem?_set_self (by omega)]; rfl)
              have cf := HBE.out.frozen q
              have hw2 : IntKind.i64.wrap (z - 1 + 1) = z := by rw [Int.sub_add_cancel]; exact IntWalk.i64_in _ (by omega)
              clear ke hcId hcLd HFd hw1
              go_wp2
              have bb := HBE.out.set_ q (.int .i64 z)
              rw [← HLM.out, iv_set, hback] at bb
              have kk := HKE.out.setCell (p := ⟨w8.heap.size, q, none⟩) (by simp) (.int .i64 z)
              go_roundw
              case rel => exact ⟨q + 1, by omega, by go_num, bb, kk⟩
              case measure => simp [intOf] <;> omega
            · have r0 : decide (0 < z) = false := decide_eq_false (by omega)
              go_wp2
              go_roundw
              case rel => exact ⟨q + 1, by omega, by go_num, HBC.out, HKC.out⟩
              case measure => simp [intOf] <;> omega
        · obtain rfl : q = 16 := by omega
          have HALm := HAl wr (HKX _ (HG7.out _ hK))
          have HKE := Lib.hid (HKX _ (HG7.out _ hK))
          clear hb hK
          go_wp2_with fail
          refine HALm.out.mono ?_
          rintro e wl ⟨rfl, kl⟩
          go_wp2
          go_ret
          exact ⟨rfl, HKE.out.then kl⟩
end Go.Proofs.YtggjhjbcdnffnaaDoor
