/- The plain law of offsets: halving finds a least one; what is found, task by task. No program in sight. Far offsets, and whether offsets fit (offset's far, fits). Condition: the table of math/bits lies where the program's text lays it; small numbers. The least offset of a task (offset's least). Condition: the table of math/bits lies where the program's text lays it; small numbers. -/
import Derived.Test.YtggjhjbcdnffnaaDoorWinPlain
import Derived.Test.YtggjhjbcdnffnaaDoorLaw19P
namespace Go.Proofs.YtggjhjbcdnffnaaDoor

/-- The least number from lo on that does, by halving. -/
def halve (P : Int → Bool) : Nat → Int → Int → Int
  | 0, _, hi => hi
  | k + 1, lo, hi => if lo < hi then (if P ((lo + hi).tdiv 2) = true then halve P k lo ((lo + hi).tdiv 2) else halve P k ((lo + hi).tdiv 2 + 1) hi) else hi
theorem half_mid {lo hi : Int} (h0 : 0 ≤ lo) (h : lo < hi) : lo ≤ (lo + hi).tdiv 2 ∧ (lo + hi).tdiv 2 < hi := by
  rw [Int.tdiv_eq_ediv_of_nonneg (by omega)]
  omega
theorem halve_spec (P : Int → Bool) : ∀ (k : Nat) (lo hi : Int), 0 ≤ lo → lo ≤ hi → hi - lo ≤ k → P hi = true → (lo = 0 ∨ P (lo - 1) = false) →
    lo ≤ halve P k lo hi ∧ halve P k lo hi ≤ hi ∧ P (halve P k lo hi) = true ∧ (halve P k lo hi = 0 ∨ P (halve P k lo hi - 1) = false)
  | 0, lo, hi, h0, h1, h2, h3, h4 => by
    have : lo = hi := by simp at h2; omega
    subst this
    exact ⟨Int.le_refl _, Int.le_refl _, h3, h4⟩
  | k + 1, lo, hi, h0, h1, h2, h3, h4 => by
    rw [halve]
    by_cases hlt : lo < hi
    · rw [if_pos hlt]
      obtain ⟨m1, m2⟩ := half_mid h0 hlt
      by_cases hp : P ((lo + hi).tdiv 2) = true
      · rw [if_pos hp]
        obtain ⟨a, b, c, d⟩ := halve_spec P k lo _ h0 m1 (by push_cast at h2; omega) hp h4
        exact ⟨a, by omega, c, d⟩
      · rw [if_neg hp]
        obtain ⟨a, b, c, d⟩ := halve_spec P k ((lo + hi).tdiv 2 + 1) hi (by omega) (by omega) (by push_cast at h2; omega) h3 (.inr (by rw [Int.add_sub_cancel]; simpa using hp))
        exact ⟨by omega, b, c, d⟩
    · rw [if_neg hlt]
      have : lo = hi := by omega
      subst this
      exact ⟨Int.le_refl _, Int.le_refl _, h3, h4⟩
theorem halve_fuel (P : Int → Bool) : ∀ (k j : Nat) (lo hi : Int), 0 ≤ lo → hi - lo ≤ k → hi - lo ≤ j → halve P k lo hi = halve P j lo hi
  | 0, 0, _, _, _, _, _ => rfl
  | 0, j + 1, lo, hi, h0, h1, _ => by simp at h1; rw [halve, halve, if_neg (by omega)]
  | k + 1, 0, lo, hi, h0, _, h2 => by simp at h2; rw [halve, halve, if_neg (by omega)]
  | k + 1, j + 1, lo, hi, h0, h1, h2 => by
    rw [halve, halve]
    split
    · rename_i h
      obtain ⟨m1, m2⟩ := half_mid h0 h
      push_cast at h1 h2
      split
      · exact halve_fuel P k j _ _ h0 (by omega) (by omega)
      · exact halve_fuel P k j _ _ (by omega) (by omega) (by omega)
    · rfl
theorem halve_step (P : Int → Bool) (lo hi : Int) (h0 : 0 ≤ lo) (h : lo < hi) : halve P (hi - lo).toNat lo hi =
    if P ((lo + hi).tdiv 2) = true then halve P ((lo + hi).tdiv 2 - lo).toNat lo ((lo + hi).tdiv 2) else halve P (hi - ((lo + hi).tdiv 2 + 1)).toNat ((lo + hi).tdiv 2 + 1) hi := by
  obtain ⟨m1, m2⟩ := half_mid h0 h
  rw [show (hi - lo).toNat = (hi - lo - 1).toNat + 1 by omega, halve, if_pos h]
  split
  · exact halve_fuel P _ _ _ _ h0 (by omega) (by omega)
  · exact halve_fuel P _ _ _ _ (by omega) (by omega) (by omega)
theorem halve_end (P : Int → Bool) (k : Nat) (lo hi : Int) (h : hi ≤ lo) : halve P k lo hi = hi := by
  cases k with
  | zero => rfl
  | succ k => rw [halve, if_neg (by omega)]

/-- All of a set come from z on. -/
def farL (s : Nat) (z : Int) : List Int := (List.range 16).map (fun i => if s.testBit i = true then z else 0)
theorem farL_len (s : Nat) (z : Int) : (farL s z).length = 16 := by simp [farL]
theorem farL_get (s : Nat) (z : Int) (i : Nat) (hi : i < 16) : (farL s z)[i]? = some (if s.testBit i = true then z else 0) := by
  unfold farL
  rw [List.getElem?_map, List.getElem?_range hi]; rfl
theorem farL_ok (s : Nat) {z : Int} (h : 0 ≤ z ∧ z ≤ 16384) : OffOk (farL s z) := by
  refine ⟨farL_len s z, fun u hu => ?_⟩
  obtain ⟨i, _, rfl⟩ := List.mem_map.1 hu
  split <;> omega
theorem OffOk.set {L : List Int} (h : OffOk L) (i : Nat) {z : Int} (hz : 0 ≤ z ∧ z ≤ 16384) : OffOk (L.set i z) :=
  ⟨by rw [List.length_set]; exact h.1, fun u hu => by
    rcases List.mem_or_eq_of_mem_set hu with h1 | rfl
    · exact h.2 _ h1
    · exact hz⟩
/-- One task's least offset, the others staying. -/
def leastO (fits : List Int → Bool) (L : List Int) (i : Nat) : Int := halve (fun z => fits (L.set i z)) (L.getD i 0).toNat 0 (L.getD i 0)
def stepO (fits : List Int → Bool) (L : List Int) (i : Nat) : List Int := L.set i (leastO fits L i)
theorem set_getD {L : List Int} (h : L.length = 16) (i : Nat) : L.set i (L.getD i 0) = L := by
  apply List.ext_getElem?
  intro k
  rw [List.getElem?_set]
  split
  · rename_i e
    subst e
    split
    · rename_i hl
      rw [List.getD_eq_getElem?_getD, List.getElem?_eq_getElem hl]; rfl
    · rename_i hl
      rw [List.getElem?_eq_none (by omega)]
  · rfl
theorem leastO_spec {fits : List Int → Bool} {L : List Int} (h : OffOk L) (hf : fits L = true) (i : Nat) :
    (0 ≤ leastO fits L i ∧ leastO fits L i ≤ 16384) ∧ fits (stepO fits L i) = true ∧ (leastO fits L i = 0 ∨ fits (L.set i (leastO fits L i - 1)) = false) := by
  have hg := h.get i
  have h3 : (fun z => fits (L.set i z)) (L.getD i 0) = true := by show fits (L.set i (L.getD i 0)) = true; rw [set_getD h.1]; exact hf
  obtain ⟨a, b, c, d⟩ := halve_spec (fun z => fits (L.set i z)) (L.getD i 0).toNat 0 (L.getD i 0) (Int.le_refl _) hg.1 (by omega) h3 (.inl rfl)
  exact ⟨⟨a, by unfold leastO; omega⟩, c, d⟩
/-- The offsets that are found for the tasks below k. -/
def findTo (fits : List Int → Bool) (s : Nat) : Nat → List Int
  | 0 => farL s 16384
  | k + 1 => if s.testBit k = true then stepO fits (findTo fits s k) k else findTo fits s k
theorem findTo_ok {fits : List Int → Bool} {s : Nat} (hf : fits (farL s 16384) = true) : ∀ k, OffOk (findTo fits s k) ∧ fits (findTo fits s k) = true
  | 0 => ⟨farL_ok s (by omega), hf⟩
  | k + 1 => by
    obtain ⟨h1, h2⟩ := findTo_ok hf k
    rw [findTo]
    split
    · obtain ⟨a, b, _⟩ := leastO_spec h1 h2 k
      exact ⟨h1.set k a, b⟩
    · exact ⟨h1, h2⟩
/-- What stands behind is far. -/
theorem findTo_get {fits : List Int → Bool} {s : Nat} : ∀ (k j : Nat), k ≤ j → j < 16 → (findTo fits s k)[j]? = some (if s.testBit j = true then 16384 else 0)
  | 0, j, _, hj => farL_get s 16384 j hj
  | k + 1, j, h, hj => by
    rw [findTo]
    split
    · rw [stepO, List.getElem?_set_ne (by omega)]
      exact findTo_get k j (by omega) hj
    · exact findTo_get k j (by omega) hj
/-- What is found stays. -/
theorem findTo_stay {fits : List Int → Bool} {s : Nat} (i k : Nat) (h : i < k) : ∀ j, (findTo fits s (k + j))[i]? = (findTo fits s k)[i]?
  | 0 => rfl
  | j + 1 => by
    rw [← Nat.add_assoc, findTo]
    split
    · rw [stepO, List.getElem?_set_ne (by omega)]
      exact findTo_stay i k h j
    · exact findTo_stay i k h j
theorem findTo_bits (fits : List Int → Bool) (s : Nat) (hs : ∀ i, 16 ≤ i → s.testBit i = false) : (bitsL s).foldl (stepO fits) (farL s 16384) = findTo fits s 16 := by
  rw [bitsL_in (n := 16) (by omega) hs]
  have : ∀ k, ((List.range k).filter (fun i => s.testBit i)).foldl (stepO fits) (farL s 16384) = findTo fits s k := by
    intro k
    induction k with
    | zero => rfl
    | succ k ih =>
      rw [List.range_succ, List.filter_append, List.foldl_append, ih, findTo]
      cases e : s.testBit k <;> simp [e]
  exact this 16
end Go.Proofs.YtggjhjbcdnffnaaDoor

namespace Go.Proofs.YtggjhjbcdnffnaaDoor
open Go.RowKit
attribute [local go_sem] Oper.semAt_some

/-- An edge of an image that may be. -/
structure EdW (x : Img) (k : Nat) : Prop where
  small : Small x
  lt : k < x.edges.length
  ok : x.Ok
  both : InW x.tasks.length (clsE x k).both
  to_ : InW x.tasks.length (clsE x k).to
theorem edW_of {x : Img} (hx0 : (chkImg x).2 = 0) (ho : x.Ok) {k : Nat} (hk : k < x.edges.length) : EdW x k := by
  obtain ⟨f, t, _, hf, ht, hc, _, h1, h2⟩ := edge_w hx0 ho k hk
  exact ⟨small_of hx0, hk, ho, by rw [hc, clsOf_both hf ht]; exact h1, by rw [hc, clsOf_to hf ht]; exact h2⟩
def fitsB (x : Img) (k : Nat) (L : List Int) : Bool := (spanM x (clsE x k) (tabE x k) L).isSome
set_option maxRecDepth 100000 in
set_option maxHeartbeats 2000000 in
theorem fits_any (v : ImgV) (x : Img) (k : Nat) (L : List Int) (w : World) (hTb : Tab w) (h : ImgAt w v x) (hE : EdW x k) (hL : OffOk L) :
    Calls Tryd.prog 59 #[.agg (imgCells v x).toArray, .int .i64 (k : Int), .agg (iv L).toArray] w fun e w' => e = .returned (.bool (fitsB x k L)) ∧ Keep [] w w' := by
  obtain ⟨W0, hW0⟩ : ∃ W0, (w.alloc (.cells (imgCells v x).toArray 26)).alloc (.cells (iv L).toArray 27) = W0 := ⟨_, rfl⟩
  have b0 : Blk W0 w.heap.size 26 (imgCells v x).toArray := by rw [← hW0]; exact (img_box w v x).alloc _
  have b1 : Blk W0 (w.heap.size + 1) 27 (iv L).toArray := by rw [← hW0]; exact Blk.new1 _ _ _ _
  have K0 : Keep [] w W0 := by rw [← hW0]; exact ((Keep.refl [] w).alloc _).alloc _
  have hcI := Lib.hid b0.cellsAt
  have hcL := Lib.hid b1.cellsAt
  have HIC : Hid ((imgCells v x).length = 4) := show _ = _ from rfl
  have HOC : Hid ((iv L).length = 16) := by show _ = _; rw [iv_len]; exact hL.1
  have hcok := clsE_ok x k h.ok
  have HN := Lib.hid (new_in v x k L W0 (hTb.keep0 K0) (h.keep0 K0) hE.lt hL.1)
  have HSp := fun w' hk => Lib.hid (span_any v x (clsE x k) (tabE x k) L w' (hTb.keep0 (w' := w') hk) (h.keep0 hk) hcok (tabE_len x k) hL hE.small hE.both hE.to_)
  have HSL : Hid ((shCells v x (clsE x k) (tabE x k) L).length = 31) := shCells_len v x _ (tabE_len x k) hL.1
  have hone : Hid (∀ u ∈ shCells v x (clsE x k) (tabE x k) L, u.oneCell' = true) := shCells_one _ _ _ _ _
  have HFB : Hid (fitsB x k L = (spanM x (clsE x k) (tabE x k) L).isSome) := show _ = _ from rfl
  have HW := Lib.hid hW0
  clear hTb h hE hL hcok b0 b1 hW0
  generalize shCells v x (clsE x k) (tabE x k) L = sc at *
  generalize spanM x (clsE x k) (tabE x k) L = sp at *
  generalize imgCells v x = il at *
  generalize iv L = lc at *
  go_enter Tryd.func59, Tryd.ntmps59
  go_wp2_with (first
    | rw [HW.out]
    | (refine wpList_load_agg rfl 26 (.tmp 3) rfl rfl (cs := il) (by rw [HIC.out]; exact agg_image) hcI.out ?_)
    | (refine wpList_load_agg rfl 27 (.tmp 5) rfl rfl (cs := lc) (by rw [HOC.out]; exact agg_offs) hcL.out ?_))
  refine HN.out.mono ?_
  rintro e w2 ⟨rfl, k2⟩
  have HK2 := Lib.hid (K0.then k2)
  clear k2 HN hcI hcL
  go_wp2_with (refine stop_store 37 (.tmp 7) (.tmp 14) rfl ?_)
  constructor
  refine wpList_store_all rfl 37 (.tmp 7) (.tmp 14) rfl rfl rfl (vs := sc) (by rw [HSL.out]; exact agg_shift.2) (Blk.new _ _ _) hone.out ?_ ?_
  · rw [HSL.out]; rfl
  intro w3 d3 k3
  have k23 : Keep [] w2 w3 := ((Keep.refl [] w2).alloc _).trans k3 (fun y hy hlt => by simp at hy; omega)
  have HK3 := Lib.hid (HK2.out.then k23)
  have hA3 := Lib.hid d3.cellsAt
  clear k3 k23 d3
  go_wp2_with (refine wpList_load_agg rfl 37 (.tmp 7) rfl rfl (cs := sc) (by rw [HSL.out]; exact agg_shift) hA3.out ?_)
  refine (HSp _ HK3.out).out.mono ?_
  rintro e w4 ⟨rfl, k4⟩
  rw [show spanRes sp = .tuple #[.agg #[.int .i64 (sp.getD (0, 0)).1, .int .i64 (sp.getD (0, 0)).2], .bool sp.isSome] from rfl]
  generalize (sp.getD (0, 0)).1 = p1 at *
  generalize (sp.getD (0, 0)).2 = p2 at *
  generalize sp.isSome = ss at *
  go_wp2
  go_ret
  exact ⟨by rw [HFB.out]; rfl, HK3.out.then k4⟩
set_option maxRecDepth 100000 in
set_option maxHeartbeats 2000000 in
theorem fits_out (v : ImgV) (x : Img) (edge : Int) (L : List Int) (w : World) (h : ImgAt w v x) (he : edge < 0 ∨ (x.edges.length : Int) ≤ edge) (hL : L.length = 16) :
    Calls Tryd.prog 59 #[.agg (imgCells v x).toArray, .int .i64 edge, .agg (iv L).toArray] w fun e w' => e = .returned (.bool false) ∧ Keep [] w w' := by
  obtain ⟨W0, hW0⟩ : ∃ W0, (w.alloc (.cells (imgCells v x).toArray 26)).alloc (.cells (iv L).toArray 27) = W0 := ⟨_, rfl⟩
  have b0 : Blk W0 w.heap.size 26 (imgCells v x).toArray := by rw [← hW0]; exact (img_box w v x).alloc _
  have b1 : Blk W0 (w.heap.size + 1) 27 (iv L).toArray := by rw [← hW0]; exact Blk.new1 _ _ _ _
  have K0 : Keep [] w W0 := by rw [← hW0]; exact ((Keep.refl [] w).alloc _).alloc _
  have hcI := Lib.hid b0.cellsAt
  have hcL := Lib.hid b1.cellsAt
  have HIC : Hid ((imgCells v x).length = 4) := show _ = _ from rfl
  have HOC : Hid ((iv L).length = 16) := by show _ = _; rw [iv_len]; exact hL
  have HN := Lib.hid (new_out v x edge L W0 (h.keep0 K0) he)
  have HW := Lib.hid hW0
  clear h he hL b0 b1 hW0
  generalize imgCells v x = il at *
  generalize iv L = lc at *
  go_enter Tryd.func59, Tryd.ntmps59
  go_wp2_with (first
    | rw [HW.out]
    | (refine wpList_load_agg rfl 26 (.tmp 3) rfl rfl (cs := il) (by rw [HIC.out]; exact agg_image) hcI.out ?_)
    | (refine wpList_load_agg rfl 27 (.tmp 5) rfl rfl (cs := lc) (by rw [HOC.out]; exact agg_offs) hcL.out ?_))
  refine HN.out.mono ?_
  rintro e w2 ⟨rfl, k2⟩
  have HK2 := Lib.hid (K0.then k2)
  clear k2 HN hcI hcL
  go_wp2_with (refine stop_store 37 (.tmp 7) (.tmp 14) rfl ?_)
  constructor
  refine wpList_store_all rfl 37 (.tmp 7) (.tmp 14) rfl rfl rfl (vs := shZero) (by kernel_rfl) (Blk.new _ _ _) shZero_one ?_ ?_
  · rfl
  intro w3 d3 k3
  have k23 : Keep [] w2 w3 := ((Keep.refl [] w2).alloc _).trans k3 (fun y hy hlt => by simp at hy; omega)
  have HK3 := Lib.hid (HK2.out.then k23)
  clear k3 k23 d3
  go_wp2
  go_ret
  exact ⟨rfl, HK3.out⟩

/-- Those of a row are far. -/
def farIn (pre : List Nat) : List Int := (List.range 16).map (fun j => if j ∈ pre then 16384 else 0)
theorem farIn_len (pre : List Nat) : (farIn pre).length = 16 := by simp [farIn]
theorem farIn_get (pre : List Nat) (j : Nat) (hj : j < 16) : (farIn pre)[j]? = some (if j ∈ pre then 16384 else 0) := by
  unfold farIn
  rw [List.getElem?_map, List.getElem?_range hj]; rfl
theorem farIn_snoc (pre : List Nat) (i : Nat) (hi : i < 16) : farIn (pre ++ [i]) = (farIn pre).set i 16384 := by
  apply List.ext_getElem?
  intro j
  rw [List.getElem?_set, farIn_len]
  rcases Nat.lt_or_ge j 16 with hj | hj
  · rw [farIn_get _ _ hj, farIn_get _ _ hj]
    by_cases e : i = j
    · subst e; simp [hi]
    · rw [if_neg e]
      have : (j ∈ pre ++ [i]) ↔ j ∈ pre := by simp [show ¬ j = i by omega]
      simp only [this]
  · rw [List.getElem?_eq_none (by rw [farIn_len]; omega), List.getElem?_eq_none (by rw [farIn_len]; omega)]
    split
    · omega
    · rfl
theorem farIn_far (pre : List Nat) (i : Nat) (hi : 16 ≤ i) : farIn (pre ++ [i]) = farIn pre := by
  unfold farIn
  apply List.map_congr_left
  intro j hj
  have := List.mem_range.1 hj
  have : (j ∈ pre ++ [i]) ↔ j ∈ pre := by simp [show ¬ j = i by omega]
  simp only [this]
theorem farIn_bits (s : Nat) : farIn (bitsL s) = farL s 16384 := by
  unfold farIn farL
  apply List.map_congr_left
  intro j hj
  have hj := List.mem_range.1 hj
  have : (j ∈ bitsL s) ↔ s.testBit j = true := by
    rw [bitsL_mem]
    constructor
    · exact fun h => h.2
    · exact fun h => ⟨by omega, h⟩
  simp only [this]
set_option maxRecDepth 100000 in
set_option maxHeartbeats 2000000 in
theorem far_any (s : Nat) (w : World) (hTb : Tab w) (hs : s < 4294967296) :
    Calls Tryd.prog 58 #[.int .u32 (s : Int)] w fun e w' => e = .returned (.agg (iv (farL s 16384)).toArray) ∧ Keep [] w w' := by
  rw [← callsIn_wide (n := 9)]
  refine callsIn_of_wp_marks Tryd.func58 rfl trivial ?_ rfl
  simp only [Tryd.ntmps58, List.size_toArray, List.length_cons, List.length_nil, Nat.reduceAdd, Nat.reduceSub, Array.replicate_succ, Array.replicate_zero, List.push_toArray, List.append_toArray, List.nil_append, List.cons_append]
  have hz : Hid (iv z16 = [.int .i64 0, .int .i64 0, .int .i64 0, .int .i64 0, .int .i64 0, .int .i64 0, .int .i64 0, .int .i64 0, .int .i64 0, .int .i64 0, .int .i64 0, .int .i64 0, .int .i64 0, .int .i64 0, .int .i64 0, .int .i64 0]) := show _ = _ from rfl
  have hfar0 : farIn [] = z16 := by decide
  gi_wp2_with (refine stopIn_store 27 (.tmp 3) (.tmp 5) rfl ?_)
  constructor
  refine wpListIn_store_all rfl 27 (.tmp 3) (.tmp 5) rfl rfl rfl (vs := iv z16) agg_offs.2 (Blk.new1 _ _ _ _) (iv_one _) rfl ?_
  intro w1 d1 k1
  have e0 : Blk w1 w.heap.size 27 (iv z16).toArray := Blk.keep ((Blk.new _ _ _).alloc _) k1 (by simp)
  have K1 : Keep [] w w1 := (((Keep.refl [] w).alloc _).alloc _).trans k1 (fun y hy hlt => by simp at hy; omega)
  have hz1 : w.heap.size + 2 ≤ w1.heap.size := by have := k1.size; simpa using this
  clear k1
  gi_wp2_with (refine ⟨trivial, ?_⟩; gi_at_call 54; refine (callsIn_wide.2 (maskAll_any s _)).mono ?_; rintro e w2 ⟨rfl, hw2⟩)
  have k12 : Keep [] w1 w2 := by rw [← hw2]; exact (Keep.refl _ w1).alloc _
  have d2 : Blk w2 w1.heap.size 31 #[.int .u32 (s : Int)] := by rw [← hw2]; exact Blk.new _ _ _
  have hz2 : w2.heap.size = w1.heap.size + 1 := by rw [← hw2]; simp
  have hT2 := hTb.keep0 (K1.then k12)
  have hT0 := hTb.1
  have hss := maskAll1_seq 8 s w1.heap.size w2 (by omega) d2 hs hT2
  have K2 := K1.then k12
  replace e0 := e0.keep0 k12
  replace d1 := d1.keep0 k12
  clear hw2 K1 k12 hTb hT2
  refine wpIn_rangeT (F := Fence.wide) (n := 9) (Lo := fun _ _ => False) (ps := #[8]) rfl (by omega) (gf := 85) (lb := #[.pointer (some ⟨w1.heap.size, 0, none⟩)]) rfl trivial (enters_of Tryd.func85 (by kernel_rfl) rfl)
    (hss.toT _) Same.trans (fun W _ o' _ _ => same_putO (by simp; omega) o') (Below.refl _ _) (fun _ => rfl)
    (fun pre W' => Blk W' (w.heap.size + 1) 27 (iv (farIn pre)).toArray ∧ Keep [w.heap.size + 1] w2 W')
    (fun _ _ _ => False)
    ?hI (fun _ _ _ _ _ hs _ _ => hs) ⟨by rw [hfar0]; exact d1, Keep.refl _ _⟩
    (fun i => { tmps := #[.int .u32 (s : Int), undef, .pointer (some ⟨w.heap.size, 0, none⟩), .pointer (some ⟨w.heap.size + 1, 0, none⟩), .int .i64 (i : Int), .agg (iv z16).toArray, .int .u32 (s : Int), .func (.func 85) #[] #[.pointer (some ⟨w1.heap.size, 0, none⟩)], .int .i64 (i : Int), undef, undef, undef, undef, undef], defers := [] }) ?assign ?body ?done ?stop
  case hI => exact OwnFrom.toT (OwnFrom.and (blk_own _ _ _) (keep_own (Nat.le_refl _)))
  case assign =>
    intro l i W' K hK
    simp only [encN]
    gi_wp2
    exact hK
  case body =>
    rintro l pre i Wb ⟨hb, hK⟩ hpre
    have hKz := hK.size
    by_cases hi : i < 16
    · have hc : Wb.cell? ⟨w.heap.size + 1, i, none⟩ = some (.int .i64 (if i ∈ pre then 16384 else 0)) := hb.at_ (by unfold iv; rw [List.getElem?_map, farIn_get _ _ hi]; rfl)
      have hfz := hb.frozen i
      have hsn := farIn_snoc pre i hi
      have p0 : (0 : Int) ≤ (i : Int) := by omega
      have p1 : (i : Int) < 16 := by omega
      have p2 : decide ((i : Int) < 16) = true := decide_eq_true p1
      have p3 : decide (i < 16) = true := decide_eq_true hi
      generalize (if i ∈ pre then (16384 : Int) else 0) = z0 at *
      gi_wp2
      have kA := keep_set Wb (w.heap.size + 1) i (.int .i64 16384)
      refine ⟨kA.from (fun y hy => .inl (by simp at hy; omega)), Same.keep kA (fun y hy => ⟨?_, ?_⟩), ?_, hK.trans kA (fun y hy _ => hy)⟩
      · simp only [List.mem_cons, List.not_mem_nil, or_false] at hy
        rcases hy with rfl | rfl <;> omega
      · simp only [List.mem_cons, List.not_mem_nil, or_false] at hy ⊢
        rcases hy with rfl | rfl <;> omega
      · have q := hb.set_ i (.int .i64 16384)
        rw [iv_set, ← hsn] at q
        exact q
    · have hsn := farIn_far pre i (by omega)
      have p2 : decide ((i : Int) < 16) = false := decide_eq_false (by omega)
      have p3 : decide (i < 16) = false := decide_eq_false hi
      gi_wp2
      exact ⟨KeepsFrom.refl _ _, Same.refl _ _, by rw [hsn]; exact hb, hK⟩
  case done =>
    rintro D Wd hD ⟨hb, hK⟩ hD2
    rw [farIn_bits] at hb
    have HB := Lib.hid hb.cellsAt
    have HOC : Hid ((iv (farL s 16384)).length = 16) := by show _ = _; rw [iv_len]; exact farL_len _ _
    have e0' := e0.keep hK (by simp)
    have hone : Hid (∀ u ∈ iv (farL s 16384), u.oneCell' = true) := iv_one _
    generalize hfc : iv (farL s 16384) = fc at *
    have HFC := Lib.hid hfc
    clear hfc
    gi_wp2_with (first
      | (refine wpListIn_agg rfl 27 (.tmp 3) rfl rfl (cs := fc) (by rw [HOC.out]; exact agg_offs) HB.out ?_)
      | refine stopIn_store 27 (.tmp 2) (.tmp 13) rfl ?_)
    constructor
    refine wpListIn_store_all rfl 27 (.tmp 2) (.tmp 13) rfl rfl rfl (vs := fc) (by rw [HOC.out]; exact agg_offs.2) e0' hone.out (by rw [HOC.out]; rfl) ?_
    intro w9 d9 k9
    gi_wp2
    have hKz := hK.size
    have hDl := (Array.getElem?_eq_some_iff.1 hD2).1
    have hD3 := (k9.block D hDl (by simp; omega)).trans hD2
    refine ⟨by simp, .inl ⟨_, _, rfl, run_takeDeferred hD3, ?_⟩⟩
    refine ⟨_, results_blk rfl _ rfl (d9.keep (keep_putObj _ D _) (by simp; omega)) (by rw [HOC.out]; exact agg_offs), by rw [HFC.out], ?_⟩
    exact ((K2.trans hK (fun y hy hlt => by simp at hy; omega)).trans k9 (fun y hy hlt => by simp at hy; omega)).trans (keep_putObj _ D _) (fun y hy hlt => by simp at hy; omega)
  case stop => exact fun _ _ _ _ _ _ h _ => h.elim
end Go.Proofs.YtggjhjbcdnffnaaDoor

namespace Go.Proofs.YtggjhjbcdnffnaaDoor
open Go.RowKit

theorem set_set (L : List Int) (i : Nat) (a b : Int) : (L.set i a).set i b = L.set i b := List.set_set ..
set_option maxRecDepth 100000 in
set_option maxHeartbeats 3000000 in
theorem least_any (v : ImgV) (x : Img) (k task : Nat) (L : List Int) (w : World) (hTb : Tab w) (h : ImgAt w v x) (hE : EdW x k) (hL : OffOk L) (htk : task < 16) :
    Calls Tryd.prog 60 #[.agg (imgCells v x).toArray, .int .i64 (k : Int), .int .i64 (task : Int), .agg (iv L).toArray] w fun e w' => e = .returned (.int .i64 (leastO (fitsB x k) L task)) ∧ Keep [] w w' := by
  obtain ⟨W0, hW0⟩ : ∃ W0, (w.alloc (.cells (imgCells v x).toArray 26)).alloc (.cells (iv L).toArray 27) = W0 := ⟨_, rfl⟩
  have b0 : Blk W0 w.heap.size 26 (imgCells v x).toArray := by rw [← hW0]; exact (img_box w v x).alloc _
  have b1 : Blk W0 (w.heap.size + 1) 27 (iv L).toArray := by rw [← hW0]; exact Blk.new1 _ _ _ _
  have K0 : Keep [] w W0 := by rw [← hW0]; exact ((Keep.refl [] w).alloc _).alloc _
  have HCI : Hid (∀ w', Keep [w.heap.size + 1] W0 w' → CellsAt w' w.heap.size 0 (imgCells v x)) := fun w' hk => (b0.keep hk (by simp)).cellsAt
  have HIC : Hid ((imgCells v x).length = 4) := show _ = _ from rfl
  have HKW : Hid (∀ w', Keep [w.heap.size + 1] W0 w' → Keep [] w w') := fun w' hk => K0.trans hk (fun y hy hlt => by simp at hy; omega)
  have HFi := fun (N : List Int) (hN : OffOk N) w' hk => Lib.hid (fits_any v x k N w' (hTb.keep0 (w' := w') hk) (h.keep0 hk) hE hN)
  have hg := hL.get task
  have hLl := hL.1
  have hcell : ∀ w', Keep [] W0 w' → w'.cell? ⟨w.heap.size + 1, task, none⟩ = some (.int .i64 (L.getD task 0)) ∧ True := fun w' hk => ⟨(b1.keep0 hk).at_ (by unfold iv; rw [List.getElem?_map, List.getD_eq_getElem?_getD, List.getElem?_eq_getElem (by omega)]; rfl), trivial⟩
  have HLS : Hid (leastO (fitsB x k) L task = halve (fun z => fitsB x k (L.set task z)) (L.getD task 0 - 0).toNat 0 (L.getD task 0)) := by show _ = _; unfold leastO; rw [Int.sub_zero]
  have hsame : L.set task (L.getD task 0) = L := set_getD hLl task
  have HL := Lib.hid hL
  have B1 := Lib.hid b1
  have p0 : (0 : Int) ≤ (task : Int) := by omega
  have p1 : (task : Int) < 16 := by omega
  have HW := Lib.hid hW0
  clear hTb h hE hL hW0 b0 b1
  generalize hP : (fun z => fitsB x k (L.set task z)) = P at *
  have HP : Hid (∀ z, fitsB x k (L.set task z) = P z) := fun z => by rw [← hP]
  clear hP
  generalize imgCells v x = il at *
  generalize L.getD task 0 = z0 at *
  go_enter Tryd.func60, Tryd.ntmps60
  go_wp2_with (rw [HW.out])
  refine wp_region_flow (Keep [] W0) rfl (by kernel_rfl) (Keep.refl _ _).drew ?_
  repeat (refine fl_val (v := ?_) (by rfl) ?_ ?_; rotate_left; (intro w' hS; obtain ⟨f1,f2⟩ := hcell w' hS; go_simp; with_reducible rfl); simp only [Act.put, List.setIfInBounds_toArray, List.set_cons_zero, List.set_cons_succ])
  refine fl_nil ?_
  intro wS hS
  have HKS := Lib.hid hS
  clear hS hcell
  go_wp2
  go_loopw [9, 10] (fun a b wr => ∃ lo hi c : Int, (0 ≤ lo ∧ lo ≤ hi ∧ hi ≤ 16384 ∧ 0 ≤ c ∧ c ≤ 16384) ∧ a = .int .i64 lo ∧ b = .int .i64 hi ∧ Hid (leastO (fitsB x k) L task = halve P (hi - lo).toNat lo hi) ∧ Blk wr (w.heap.size + 1) 27 (iv (L.set task c)).toArray ∧ Keep [w.heap.size + 1] W0 wr) (fun a b _ => (intOf b - intOf a).toNat)
  case atStart => exact ⟨0, z0, z0, by omega, rfl, rfl, HLS.out, by rw [hsame]; exact B1.out.keep0 HKS.out, HKS.out.mono (by simp)⟩
  case round =>
    obtain ⟨lo, hi, c, hb, rfl, rfl, HR, hb1, hK⟩ := hrel
    by_cases hlt : lo < hi
    · have q0 : decide (lo < hi) = true := decide_eq_true hlt
      have hst := halve_step P lo hi hb.1 hlt
      obtain ⟨m1, m2⟩ := half_mid hb.1 hlt
      have hwr : IntKind.i64.wrap (lo + hi) = lo + hi := IntWalk.i64_in _ (by omega)
      have hwm : IntKind.i64.wrap ((lo + hi).tdiv 2) = (lo + hi).tdiv 2 := IntWalk.i64_in _ (by omega)
      have hcm : wr.cell? ⟨w.heap.size + 1, task, none⟩ = some (.int .i64 c) := hb1.at_ (by unfold iv; rw [List.getElem?_map, List.getElem?_set_self (by omega)]; rfl)
      have hfz := hb1.frozen task
      have HFm := fun w' hk => HFi (L.set task ((lo + hi).tdiv 2)) (HL.out.set task (by omega)) w' hk
      rw [HP.out] at HFm
      generalize hm : (lo + hi).tdiv 2 = m at *
      have HB1 := Lib.hid hb1
      have HK := Lib.hid hK
      clear hb1 hK
      have HLO : Hid ((iv (L.set task m)).length = 16) := by show _ = _; rw [iv_len, List.length_set]; exact hLl
      go_wp2_with (refine stop_at 25 rfl ?_)
      constructor
      have kk := HK.out.setCell (p := ⟨w.heap.size + 1, task, none⟩) (by simp) (.int .i64 m)
      have bb := HB1.out.set_ task (.int .i64 m)
      rw [iv_set, set_set] at bb
      generalize World.setCell wr ⟨w.heap.size + 1, task, none⟩ (.int .i64 m) = ws at *
      have HBS := Lib.hid bb
      have HKK := Lib.hid kk
      have HFs := HFm ws (HKW.out _ kk)
      have hcL := Lib.hid bb.cellsAt
      clear bb kk hcm hfz HFm
      refine wpList_load_agg rfl 26 (.tmp 4) rfl rfl (cs := il) (by rw [HIC.out]; exact agg_image) (HCI.out _ HKK.out) ?_
      generalize hlm : iv (L.set task m) = lm at *
      have HLM := Lib.hid hlm
      clear hlm
      go_wp2_with (refine wpList_load_agg rfl 27 (.tmp 7) rfl rfl (cs := lm) (by rw [HLO.out]; exact agg_offs) hcL.out ?_)
      refine HFs.out.mono ?_
      rintro e w2 ⟨rfl, k2⟩
      have HB2 := Lib.hid (HBS.out.keep0 k2)
      have HK2 := Lib.hid (HKK.out.then k2)
      clear k2 HFs
      cases hp : P m with
      | true =>
        have HX : Hid (leastO (fitsB x k) L task = halve P (m - lo).toNat lo m) := by show _ = _; rw [HR.out, hst, hp, if_pos rfl]
        clear hst
        go_wp2
        go_roundw
        case rel => exact ⟨lo, m, m, by omega, rfl, rfl, HX, by rw [HLM.out]; exact HB2.out, HK2.out⟩
        case measure => simp [intOf] <;> omega
      | false =>
        have HX : Hid (leastO (fitsB x k) L task = halve P (hi - (m + 1)).toNat (m + 1) hi) := by show _ = _; rw [HR.out, hst, hp, if_neg (by simp)]
        have hw1 : IntKind.i64.wrap (m + 1) = m + 1 := IntWalk.i64_in _ (by omega)
        clear hst
        go_wp2
        go_roundw
        case rel => exact ⟨m + 1, hi, m, by omega, rfl, rfl, HX, by rw [HLM.out]; exact HB2.out, HK2.out⟩
        case measure => simp [intOf] <;> omega
    · have q0 : decide (lo < hi) = false := decide_eq_false hlt
      have HX : Hid (leastO (fitsB x k) L task = hi) := by show _ = _; rw [HR.out, halve_end _ _ _ _ (by omega)]
      go_wp2
      go_ret
      exact ⟨by rw [HX.out]; rfl, HKW.out _ hK⟩
end Go.Proofs.YtggjhjbcdnffnaaDoor
