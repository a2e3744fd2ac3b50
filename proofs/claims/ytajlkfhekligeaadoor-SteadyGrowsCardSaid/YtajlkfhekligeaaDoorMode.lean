/- Within how many ticks nobody is there (steady.Busy). Condition: the table of math/bits lies where the program's text lays it. What is known of all tasks of a set (steady.Mode). Condition: the table of math/bits lies where the program's text lays it; the numbers are small. How far ahead of their deadlines all tasks of a set are done (steady.Slack). Condition: the table of math/bits lies where the program's text lays it; the numbers are small. -/
import Derived.Test.YtajlkfhekligeaaDoorResp
namespace Go.Proofs.YtajlkfhekligeaaDoor
open Go.RowKit
attribute [local go_sem] Oper.semAt_some noOut_normal

/-- A term whose work is there at once, too. -/
def carry (t : Trm) : Trm := { t with car := t.cost }
/-- The first k terms are there at once. -/
def carryK (l : List Trm) (k : Nat) : List Trm := (l.take k).map carry ++ l.drop k
theorem carryK_len (l : List Trm) (k : Nat) : (carryK l k).length = l.length := by
  unfold carryK; rw [List.length_append, List.length_map, List.length_take, List.length_drop]; omega
theorem carryK_zero (l : List Trm) : carryK l 0 = l := by simp [carryK]
theorem carryK_all (l : List Trm) : carryK l l.length = l.map carry := by simp [carryK]
theorem carryK_at (l : List Trm) (k : Nat) (h : k < l.length) : (carryK l k)[k]? = some l[k] := by
  unfold carryK
  rw [List.getElem?_append_right (by simp; omega)]
  simp [List.getElem?_drop]
  rw [show min k l.length = k by omega]
  simp [h]
theorem carryK_step (l : List Trm) (k : Nat) (h : k < l.length) : carryK l (k + 1) = (carryK l k).set k (carry l[k]) := by
  apply List.ext_getElem?
  intro i
  rw [List.getElem?_set]
  unfold carryK
  rcases Nat.lt_trichotomy i k with h1 | h1 | h1
  · rw [if_neg (by omega), List.getElem?_append_left (by simp; omega), List.getElem?_append_left (by simp; omega)]
    simp [List.getElem?_take, h1, show i < k + 1 by omega]
  · subst h1
    rw [if_pos rfl, if_pos (by simp; omega), List.getElem?_append_left (by simp; omega)]
    simp [List.getElem?_take, h]
  · rw [if_neg (by omega), List.getElem?_append_right (by simp; omega), List.getElem?_append_right (by simp; omega)]
    simp [List.getElem?_drop]
    congr 1
    omega
theorem flat_set (l : List Trm) (k : Nat) (t : Trm) (h : k < l.length) (hk : l[k]? = some t) : ((l.flatMap trmCells).set (k * 4 + 3) (.int .i64 t.cost)) = (l.set k (carry t)).flatMap trmCells := by
  have h1 := flat_at (cells := trmCells) (size := 4) l (fun _ _ => rfl)
  have h2 := flat_at (cells := trmCells) (size := 4) (l.set k (carry t)) (fun _ _ => rfl)
  have l1 := flat_len (cells := trmCells) (size := 4) l (fun _ _ => rfl)
  have l2 := flat_len (cells := trmCells) (size := 4) (l.set k (carry t)) (fun _ _ => rfl)
  rw [List.length_set] at l2
  apply List.ext_getElem?
  intro i
  rw [List.getElem?_set]
  by_cases hi : i < l.length * 4
  · have e : i / 4 * 4 + i % 4 = i := by omega
    have a1 := h1 (i / 4) (i % 4) (by omega) (by omega)
    have a2 := h2 (i / 4) (i % 4) (by rw [List.length_set]; omega) (by omega)
    rw [e] at a1 a2
    rw [a1, a2]
    by_cases hik : i / 4 = k
    · subst hik
      have e3 : l[i / 4] = t := by rw [List.getElem?_eq_getElem h] at hk; injection hk
      simp only [List.getElem_set_self, e3]
      by_cases h3 : i % 4 = 3
      · rw [if_pos (by omega), if_pos (by omega), h3]; rfl
      · rw [if_neg (by omega)]
        have hc : i % 4 = 0 ∨ i % 4 = 1 ∨ i % 4 = 2 := by omega
        rcases hc with e | e | e <;> rw [e] <;> rfl
    · rw [if_neg (by omega), List.getElem_set_ne (fun e => hik e.symm)]
  · rw [if_neg (by omega), List.getElem?_eq_none (by omega), List.getElem?_eq_none (by omega)]
def busyM (x : Img) (s : Nat) : Option Int := leastM 0 65536 (allM ((termsOf x.tasks s).map carry))

set_option maxRecDepth 100000 in
set_option maxHeartbeats 2000000 in
theorem busy_any (v : ImgV) (x : Img) (s : Nat) (w : World) (hT : Tab w) (h : ImgAt w v x) (hs : s < 4294967296) :
    Calls Tryd.prog 24 #[.agg (imgCells v x).toArray, .int .u32 (s : Int)] w fun e w' => e = .returned (numRes (busyM x s)) ∧ Keep [] w w' := by
  have b0 := img_box w v x
  have K0 := (Keep.refl [] w).alloc (.cells (imgCells v x).toArray 26)
  have HTe := fun w' hk' => Lib.hid (terms_any v x s w' (hT.keep0 hk') (h.keep0 hk') hs)
  have htl := termsOf_le x.tasks s
  have HFL := fun A c w' hr => Lib.hid (fleast_any A c ((termsOf x.tasks s).map carry) 0 65536 w' hr (by simp; omega))
  have HIC : Hid ((imgCells v x).length = 4) := show _ = _ from rfl
  have hCI := Lib.hid b0.cellsAt
  have HB : Hid (busyM x s = leastM 0 65536 (allM ((termsOf x.tasks s).map carry))) := rfl
  clear b0 h hT
  generalize termsOf x.tasks s = ts at *
  generalize imgCells v x = ic at *
  go_enter Tryd.func24, Tryd.ntmps24
  go_wp2_with (refine wpList_load_agg rfl 26 (.tmp 2) rfl rfl (cs := ic) (by rw [HIC.out]; exact agg_image) hCI.out ?_)
  refine (HTe _ K0).out.mono ?_
  rintro e w3 ⟨A, c, rfl, o3, k3⟩
  have K3 := K0.then k3
  clear hCI HTe K0 k3
  have HL := Lib.hid htl
  go_wp2
  go_loopw [13] (fun i wr => ∃ k : Nat, k ≤ ts.length ∧ i = .int .i64 k ∧ wr.ownsRow w.heap.size 113 4 (.slice A ts.length c) ts.length ((carryK ts k).flatMap trmCells) ∧ Keep [] w wr) (fun i _ => ts.length - (intOf i).toNat)
  case atStart => exact ⟨0, Nat.zero_le _, rfl, by rw [carryK_zero]; exact own_base o3 (by simp), K3⟩
  case round =>
    clear o3 K3
    obtain ⟨k, hk, rfl, hrow, hK⟩ := hrel
    have hl := HL.out
    by_cases hlt : k < ts.length
    · obtain ⟨g, cap, hv, _, hgl⟩ := hrow.form (by omega)
      have e1 : A = some ⟨g, 0, none⟩ ∧ c = cap := by
        injection hv with h1 h2 h3
        exact ⟨h1, h3⟩
      obtain ⟨rfl, rfl⟩ := e1
      have hlow := (hrow.lt g rfl).1
      have hat := carryK_at ts k hlt
      have hkl : k < (carryK ts k).length := by rw [carryK_len]; exact hlt
      have hfa := flat_at (cells := trmCells) (size := 4) (carryK ts k) (fun _ _ => rfl) k
      have hget : (carryK ts k)[k] = ts[k] := by rw [List.getElem?_eq_getElem hkl] at hat; injection hat
      have f1 := hfa 1 hkl (by omega)
      have f3 := hfa 3 hkl (by omega)
      rw [hget] at f1 f3
      have c1 := (hrow.cellAt (k * 4 + 1) (by omega)).trans f1
      have c3 := (hrow.cellAt (k * 4 + 3) (by omega)).trans f3
      have z3 := hrow.frozenAt (k * 4 + 3)
      have st := (hrow.stored (k * 4 + 3) (.int .i64 ts[k].cost)).1
      rw [flat_set (carryK ts k) k ts[k] hkl hat, ← carryK_step ts k hlt] at st
      have kst : Keep [] w (wr.setCell ⟨g, k * 4 + 3, none⟩ (.int .i64 ts[k].cost)) := hK.trans (keep_set wr g (k * 4 + 3) _) (fun y hy hlt => by simp at hy; omega)
      have HST := Lib.hid (And.intro st kst)
      change wr.cell? ⟨g, k * 4 + 1, none⟩ = some (.int .i64 ts[k].cost) at c1
      change wr.cell? ⟨g, k * 4 + 3, none⟩ = some (.int .i64 ts[k].car) at c3
      have p0 : (0 : Int) ≤ (k : Int) := by omega
      have p1 : (k : Int) < (ts.length : Int) := by omega
      clear st kst hat hfa hget f1 f3 hrow hK hkl
      generalize ts[k].cost = tco at *
      generalize ts[k].car = tca at *
      go_wp2
      go_roundw
      case rel => exact ⟨k + 1, by omega, by go_num, HST.out.1, HST.out.2⟩
      case measure => simp [intOf] <;> omega
    · obtain rfl : k = ts.length := by omega
      rw [carryK_all] at hrow
      have hr := Reads.of_own hrow
      have HF := HFL A c wr (by simpa using hr)
      rw [List.length_map, ← HB.out] at HF
      have HK := Lib.hid hK
      clear hrow hr hK HB HFL
      go_wp2_with (refine HF.out.mono ?_; rintro e w5 ⟨rfl, k5⟩; rw [numRes_eq])
      go_ret2
      exact ⟨rfl, HK.out.then k5⟩
end Go.Proofs.YtajlkfhekligeaaDoor

namespace Go.Proofs.YtajlkfhekligeaaDoor
open Go.RowKit
attribute [local go_sem] Oper.semAt_some noOut_normal

theorem slice_row : SliceOf Tryd.prog 34 36 3 24 := ⟨Tryd.underlying34, by kernel_rfl, by decide⟩
/-- The first task of a row that may be late; and what is known of all. -/
def lateIn (x : Img) (s : Nat) (T : List Int) (is : List Nat) : Option Nat := is.find? (fun (i : Nat) => !(respM x s s T (i : Int)).2)
def rowsIn (x : Img) (s : Nat) (T : List Int) (is : List Nat) : List RowM := is.map (fun (i : Nat) => (respM x s s T (i : Int)).1)
structure ModeM where
  rows : List RowM
  at_ : Nat
  ok : Bool
def modeM (x : Img) (s : Nat) : ModeM := match lateIn x s (ceilOf x.tasks s) (bitsL s) with
  | some i => ⟨[], i, false⟩
  | none => ⟨rowsIn x s (ceilOf x.tasks s) (bitsL s), 0, true⟩
def RetMode (w : World) (m : ModeM) (e : Ending) (w' : World) : Prop :=
  ∃ A c, e = .returned (.tuple #[.slice A m.rows.length c, .int .i64 (m.at_ : Int), .bool m.ok]) ∧ w'.ownsRow w.heap.size 36 3 (.slice A m.rows.length c) m.rows.length (m.rows.flatMap rowCells) ∧ Keep [] w w'
theorem lateIn_snoc {x : Img} {s : Nat} {T : List Int} {is : List Nat} {i : Nat} (h : lateIn x s T is = none) : lateIn x s T (is ++ [i]) = if (respM x s s T (i : Int)).2 then none else some i := by
  unfold lateIn at *
  rw [List.find?_append, h]
  by_cases hb : (respM x s s T (i : Int)).2 = true
  · rw [if_pos hb]; simp [hb]
  · rw [if_neg hb]; simp [hb]
theorem lateIn_prefix {x : Img} {s : Nat} {T : List Int} {is js : List Nat} {i : Nat} (h : is <+: js) (hl : lateIn x s T is = some i) : lateIn x s T js = some i := by
  obtain ⟨r, rfl⟩ := h
  unfold lateIn at *
  rw [List.find?_append, hl]; rfl
theorem rowsIn_snoc (x : Img) (s : Nat) (T : List Int) (is : List Nat) (i : Nat) : rowsIn x s T (is ++ [i]) = rowsIn x s T is ++ [(respM x s s T (i : Int)).1] := by simp [rowsIn]
theorem rowsIn_len (x : Img) (s : Nat) (T : List Int) (is : List Nat) : (rowsIn x s T is).length = is.length := by simp [rowsIn]

set_option maxRecDepth 100000 in
set_option maxHeartbeats 2000000 in
theorem mode_any (v : ImgV) (x : Img) (s : Nat) (w : World) (hT : Tab w) (h : ImgAt w v x) (hs : s < 4294967296) (hx : Small x) :
    Calls Tryd.prog 56 #[.agg (imgCells v x).toArray, .int .u32 (s : Int)] w (RetMode w (modeM x s)) := by
  rw [← callsIn_wide (n := 9)]
  refine callsIn_of_wp_marks Tryd.func56 rfl trivial ?_ rfl
  simp only [Tryd.ntmps56, List.size_toArray, List.length_cons, List.length_nil, Nat.reduceAdd, Nat.reduceSub, Array.replicate_succ, Array.replicate_zero, List.push_toArray, List.append_toArray, List.nil_append, List.cons_append]
  have HI := Lib.hid h
  have HTb := Lib.hid hT
  have HC := fun w' hk => Lib.hid (ceilOf_any v x s w' (hT.keep0 hk) (h.keep0 hk) hs)
  have HRs := fun (i : Nat) w' hk => Lib.hid (resp_any v x s s (ceilOf x.tasks s) (i : Int) w' (hT.keep0 hk) (h.keep0 hk) hs hs (ceilIn_len _ _) hx)
  obtain ⟨W0, hW0⟩ : ∃ W0, ((((w.alloc (.cells (imgCells v x).toArray 26)).alloc (.cells #[.int .u32 (s : Int)] 50)).alloc (.cells #[.slice none 0 0] 34)).alloc (.cells #[.int .i64 0] 3)).alloc (.cells #[.bool false] 4) = W0 := ⟨_, rfl⟩
  have b0 : Blk W0 w.heap.size 26 (imgCells v x).toArray := by rw [← hW0]; exact ((((Blk.new _ _ _).alloc _).alloc _).alloc _).alloc _
  have b1 : Blk W0 (w.heap.size + 1) 50 #[.int .u32 (s : Int)] := by rw [← hW0]; exact (((Blk.new1 _ _ _ _).alloc _).alloc _).alloc _
  have b2 : Blk W0 (w.heap.size + 2) 34 #[.slice none 0 0] := by rw [← hW0]; exact ((Blk.new2 _ _ _ _ _).alloc _).alloc _
  have b3 : Blk W0 (w.heap.size + 3) 3 #[.int .i64 0] := by rw [← hW0]; exact (Blk.new3 _ _ _ _ _ _).alloc _
  have b4 : Blk W0 (w.heap.size + 4) 4 #[.bool false] := by
    rw [← hW0]
    have := Blk.new3 (w.alloc (.cells (imgCells v x).toArray 26)) (.cells #[.int .u32 (s : Int)] 50) (.cells #[.slice none 0 0] 34) (.cells #[.int .i64 0] 3) 4 #[.bool false]
    rw [World.size_alloc] at this
    exact this
  have K0 : Keep [] w W0 := by rw [← hW0]; exact (((((Keep.refl _ w).alloc _).alloc _).alloc _).alloc _).alloc _
  have hsz : W0.heap.size = w.heap.size + 5 := by rw [← hW0]; simp
  have HIC : Hid ((imgCells v x).length = 4) := show _ = _ from rfl
  have hCI := Lib.hid b0.cellsAt
  have cs1 := b1.cell 0
  simp at cs1
  have HSZ := Lib.hid hsz
  have HCL : Hid ((iv (ceilOf x.tasks s)).length = 8) := by show _ = _; rw [iv_len]; exact ceilIn_len _ _
  have HONE := Lib.hid (iv_one (ceilOf x.tasks s))
  have HM : Hid (modeM x s = match lateIn x s (ceilOf x.tasks s) (bitsL s) with | some i => ⟨[], i, false⟩ | none => ⟨rowsIn x s (ceilOf x.tasks s) (bitsL s), 0, true⟩) := rfl
  clear h hT hx hsz
  generalize ceilOf x.tasks s = T at *
  generalize iv T = tc at *
  generalize imgCells v x = ic at *
  have HW := Lib.hid hW0
  clear hW0
  gi_wp2_with (first
    | rw [HW.out]
    | (refine wpListIn_agg rfl 26 (.tmp 2) rfl rfl (cs := ic) (by rw [HIC.out]; exact agg_image) hCI.out ?_)
    | (refine ⟨trivial, ?_⟩; gi_at_call 28; refine (callsIn_wide.2 (HC _ K0).out).mono ?_; rintro e w1 ⟨rfl, k1⟩)
    | (refine stopIn_store 75 (.tmp 7) (.tmp 14) rfl ?_))
  constructor
  refine wpListIn_store_all rfl 75 (.tmp 7) (.tmp 14) rfl rfl rfl (vs := tc) (by rw [HCL.out]; kernel_rfl) (Blk.new _ _ _) HONE.out (by rw [HCL.out]; rfl) ?_
  intro w2 d2 k2
  have hsz := HSZ.out
  have hz1 := k1.size
  have k12 : Keep [] W0 w2 := (k1.alloc _).trans k2 (fun y hy hlt => by simp at hy; omega)
  have hz2 := k2.size
  simp at hz2
  have cs2 := (k12.cell (p := ⟨w.heap.size + 1, 0, none⟩) (World.block_lt_of_cell? _ _ cs1) (by simp)).trans cs1
  clear hsz HC
  gi_wp2_with (refine stopIn_at 15 rfl ?_)
  constructor
  obtain ⟨V2, hV2⟩ : ∃ V2, w2.alloc (.cells #[.slice none 0 0] 34) = V2 := ⟨_, rfl⟩
  have kV2 : Keep [] w2 V2 := by rw [← hV2]; exact (Keep.refl _ w2).alloc _
  have szV2 : V2.heap.size = w2.heap.size + 1 := by rw [← hV2]; simp
  have cs3 := (kV2.cell (p := ⟨w.heap.size + 1, 0, none⟩) (World.block_lt_of_cell? _ _ cs2) (by simp)).trans cs2
  change wpListIn _ _ _ _ _ _ _ (w2.alloc (.cells #[.slice none 0 0] 34))
  rw [hV2]
  have HSV := Lib.hid szV2
  clear szV2
  gi_wp2_with (refine ⟨trivial, ?_⟩; gi_at_call 59; refine (callsIn_wide.2 (maskAll_any s _)).mono ?_; rintro e w' ⟨rfl, rfl⟩)
  have hsz := HSZ.out
  obtain ⟨W3, hW3⟩ : ∃ W3, V2.alloc (.cells #[.int .u32 (s : Int)] 50) = W3 := ⟨_, rfl⟩
  have d8 : Blk W3 w2.heap.size 34 #[.slice none 0 0] := by rw [← hW3, ← hV2]; exact (Blk.new _ _ _).alloc _
  have d9 : Blk W3 (w2.heap.size + 1) 50 #[.int .u32 (s : Int)] := by rw [← hW3, ← HSV.out]; exact Blk.new _ _ _
  have k23 : Keep [] w2 W3 := by rw [← hW3]; exact kV2.alloc _
  have sz3 : W3.heap.size = w2.heap.size + 2 := by rw [← hW3]; simp [HSV.out]
  have d7 := d2.keep0 k23
  have k3 := k12.then k23
  have K3 := K0.then k3
  have c0 := b0.keep0 k3
  have c1 := b1.keep0 k3
  have c2 := b2.keep0 k3
  have c3 := b3.keep0 k3
  have c4 := b4.keep0 k3
  have hTW := HTb.out.keep0 K3
  have hzt := HTb.out.1
  have hsv := HSV.out
  simp only [hW3, hsv]
  clear hV2 kV2 cs3
  obtain ⟨g7, hg7⟩ : ∃ g7, w1.heap.size = g7 := ⟨_, rfl⟩
  obtain ⟨g8, hg8⟩ : ∃ g8, w2.heap.size = g8 := ⟨_, rfl⟩
  simp only [hg7, hg8] at *
  have hzs : w.heap.size + 4 < g7 ∧ g7 < g8 ∧ W3.heap.size = g8 + 2 := ⟨by omega, by omega, sz3⟩
  clear hsv HSV hW3 k1 k2 k12 k23 k3 d2 b0 b1 b2 b3 b4 K0 hz1 hz2 cs1 cs2 hsz hg7 hg8 HW hCI
  have hbl := bitsL_le s
  have HLb := Lib.hid hbl
  refine wpIn_rangeFunc_ownG (F := Fence.wide) (n := 9) (ps := #[17]) rfl (by omega) (gf := 91) (lb := #[.pointer (some ⟨g8 + 1, 0, none⟩)]) rfl trivial (enters_of Tryd.func91 (by kernel_rfl) rfl)
    (maskAll1_stops 8 s (g8 + 1) W3 (by omega) d9 hs hTW) Same.trans (Same.turn (by simp; omega)) (Below.refl _ _) (fun _ => rfl)
    (fun pre W => lateIn x s T pre = none ∧ (∃ V, W.ownsRow W3.heap.size 36 3 V pre.length ((rowsIn x s T pre).flatMap rowCells) ∧ Blk W g8 34 #[V]) ∧ Blk W (w.heap.size + 2) 34 #[.slice none 0 0] ∧ Blk W (w.heap.size + 3) 3 #[.int .i64 0] ∧ Blk W (w.heap.size + 4) 4 #[.bool false] ∧ Keep [g8] W3 W)
    (fun c pre W => c = .ret ∧ ∃ i : Nat, lateIn x s T pre = some i ∧ Blk W (w.heap.size + 2) 34 #[.slice none 0 0] ∧ Blk W (w.heap.size + 3) 3 #[.int .i64 (i : Int)] ∧ Blk W (w.heap.size + 4) 4 #[.bool false] ∧ Keep [g8, w.heap.size + 2, w.heap.size + 3, w.heap.size + 4] W3 W)
    ?hI ?hIx ⟨rfl, ⟨_, World.ownsRow_nil _ _ _ _, d8⟩, c2, c3, c4, Keep.refl _ _⟩
    (fun i => { tmps := #[.agg ic.toArray, .int .u32 (s : Int), .pointer (some ⟨w.heap.size, 0, none⟩), .pointer (some ⟨w.heap.size + 1, 0, none⟩), .pointer (some ⟨w.heap.size + 2, 0, none⟩), .pointer (some ⟨w.heap.size + 3, 0, none⟩), .pointer (some ⟨w.heap.size + 4, 0, none⟩),
      .pointer (some ⟨g7, 0, none⟩), .pointer (some ⟨g8, 0, none⟩), .int .i64 (i : Int), undef, undef, .agg ic.toArray, .int .u32 (s : Int), .agg tc.toArray, .int .u32 (s : Int), .func (.func 91) #[] #[.pointer (some ⟨g8 + 1, 0, none⟩)], .int .i64 (i : Int),
      undef, undef, undef, undef, undef, undef, undef, undef, undef, undef, undef, undef, undef, undef, undef, undef, undef], defers := [] }) ?assign ?body ?done ?stop
  case hI =>
    intro pre X Y row hs hg hr
    obtain ⟨h0, ⟨V, h1, h2⟩, h3, h4, h5, h6⟩ := hs
    exact ⟨h0, ⟨V, ownsRow_own (β := Unit) _ _ _ (fun _ => V) (fun _ => pre.length) (fun _ => (rowsIn x s T pre).flatMap rowCells) () X Y row h1 hg hr, blk_own (β := Unit) _ _ (fun _ => _) () X Y row h2 hg hr⟩,
      blk_own (β := Unit) _ _ (fun _ => _) () X Y row h3 hg hr, blk_own (β := Unit) _ _ (fun _ => _) () X Y row h4 hg hr, blk_own (β := Unit) _ _ (fun _ => _) () X Y row h5 hg hr,
      keep_own (β := Unit) (Nat.le_refl _) () X Y row h6 hg hr⟩
  case hIx =>
    intro c pre X Y row hs hg hr
    obtain ⟨h0, i, h1, h3, h4, h5, h6⟩ := hs
    exact ⟨h0, i, h1, blk_own (β := Unit) _ _ (fun _ => _) () X Y row h3 hg hr, blk_own (β := Unit) _ _ (fun _ => _) () X Y row h4 hg hr, blk_own (β := Unit) _ _ (fun _ => _) () X Y row h5 hg hr,
      keep_own (β := Unit) (Nat.le_refl _) () X Y row h6 hg hr⟩
  case assign =>
    intro l i W K hK
    simp only [encN]
    gi_wp2
    exact hK
  case body =>
    rintro l pre i W ⟨hlate, ⟨V, hrow, hv⟩, e2, e3, e4, hK⟩ hlt
    have ci := Lib.hid (c0.keep hK (by simp; omega)).cellsAt
    have ct := Lib.hid (d7.keep hK (by simp; omega)).cellsAt
    have q1 := (c1.keep hK (by simp; omega)).cell 0
    simp at q1
    have KW : Keep [] w W := K3.trans hK (by intro y hy hlt; simp at hy; omega)
    have HRi := HRs i W KW
    have HLS := Lib.hid (lateIn_snoc (i := i) hlate)
    have HRO := Lib.hid (rowsIn_snoc x s T pre i)
    generalize respM x s s T (i : Int) = rm at *
    obtain ⟨⟨ra, rb, rc⟩, ro⟩ := rm
    have HRi2 : Hid (Calls Tryd.prog 29 #[.agg ic.toArray, .int .u32 (s : Int), .int .u32 (s : Int), .agg tc.toArray, .int .i64 (i : Int)] W fun e w' => e = .returned (.tuple #[.agg #[.int .i64 ra, .int .i64 rb, .int .i64 rc], .bool ro]) ∧ Keep [] W w') := HRi.out
    clear HRi hlate
    gi_wp2_with (first
      | (refine wpListIn_agg rfl 26 (.tmp 2) rfl rfl (cs := ic) (by rw [HIC.out]; exact agg_image) ci.out ?_)
      | (refine wpListIn_agg rfl 75 (.tmp 7) rfl rfl (cs := tc) (by rw [HCL.out]; exact agg_tab) ct.out ?_)
      | (refine ⟨trivial, ?_⟩; gi_at_call 29; refine ((callsIn_wide.2 HRi2.out).inRound l).mono ?_; rintro e w5 ⟨rfl, k5⟩)
      | (refine stopIn_store 36 (.tmp 10) (.tmp 25) rfl ?_))
    constructor
    refine wpListIn_store_all rfl 36 (.tmp 10) (.tmp 25) rfl rfl rfl (vs := [.int .i64 ra, .int .i64 rb, .int .i64 rc]) (by kernel_rfl) (Blk.new _ _ _) (by simp [Value.oneCell']) rfl ?_
    intro w6 d6 k6
    have hz5 := k5.size
    have K6 : Keep [] W w6 := (k5.alloc _).trans k6 (fun y hy hlt => by simp at hy; omega)
    have f2 := e2.keep0 K6
    have f3 := e3.keep0 K6
    have f4 := e4.keep0 K6
    have fv := hv.keep0 K6
    have frow := own_keep0 hrow K6
    have HD6 := Lib.hid d6.cellsAt
    have hK6 := hK.then K6
    have HK6 := Lib.hid K6
    have HWC := Lib.hid (own_cells hrow)
    have hC : ∀ y, y ∈ [g8 + 1, 0] → y < W.heap.size := fun y hy => by
      have := hK.size
      simp only [List.mem_cons, List.not_mem_nil, or_false] at hy
      rcases hy with rfl | rfl <;> omega
    clear k5 k6 K6 e2 e3 e4 hv hrow d6 HRi2 ci ct q1
    cases ro with
    | false =>
      have HLi : Hid (lateIn x s T (pre ++ [i]) = some i) := by show _ = _; rw [HLS.out]; rfl
      have a2 := f2.cell 0
      have z2 := f2.frozen 0
      have a3 := f3.cell 0
      have z3 := f3.frozen 0
      have a4 := f4.cell 0
      have z4 := f4.frozen 0
      simp at a2 a3 a4
      gi_wp2
      have n1 := keep_set w6 (w.heap.size + 2) 0 (.slice none 0 0)
      have n2 := keep_set (w6.setCell ⟨w.heap.size + 2, 0, none⟩ (.slice none 0 0)) (w.heap.size + 3) 0 (.int .i64 (i : Int))
      have n3 := keep_set ((w6.setCell ⟨w.heap.size + 2, 0, none⟩ (.slice none 0 0)).setCell ⟨w.heap.size + 3, 0, none⟩ (.int .i64 (i : Int))) (w.heap.size + 4) 0 (.bool false)
      have n4 : Keep [w.heap.size + 2, w.heap.size + 3, w.heap.size + 4] w6 _ := ((n1.mono (by simp)).trans n2 (by simp)).trans n3 (by simp)
      have n5 : Keep [w.heap.size + 2, w.heap.size + 3, w.heap.size + 4] W _ := (HK6.out.mono (by simp)).trans n4 (fun y hy _ => hy)
      refine ⟨n5.from (fun y hy => .inl (by simp at hy; omega)), rfl, i, HLi.out, ?_, ?_, ?_, (hK6.mono (by simp)).trans n4 (fun y hy _ => List.mem_cons_of_mem _ hy)⟩
      · exact ((f2.set_ 0 _).keep n2 (by simp)).keep n3 (by simp)
      · exact ((f3.keep n1 (by simp)).set_ 0 _).keep n3 (by simp)
      · exact ((f4.keep n1 (by simp)).keep n2 (by simp)).set_ 0 _
    | true =>
      have HLi : Hid (lateIn x s T (pre ++ [i]) = none) := by show _ = _; rw [HLS.out]; rfl
      have hpl : pre.length < 32 := by have := HLb.out; omega
      obtain ⟨A, c, rfl⟩ := own_shape frow
      have hWcells := HWC.out
      have av := fv.cell 0
      simp at av
      have hne := own_blk_ne frow fv (by decide)
      have hB : W3.heap.size ≤ w6.heap.size := hK6.size
      gi_wp2_with (first
        | (refine wpListIn_agg rfl 36 (.tmp 10) rfl rfl (cs := [.int .i64 ra, .int .i64 rb, .int .i64 rc]) agg_row HD6.out ?_)
        | (gi_at_builtin; refine wpListIn_app_lit 1 rfl (.tmp 30) (.tmp 32) 34 rfl slice_row frow rfl rfl (us := [.int .i64 ra, .int .i64 rb, .int .i64 rc]) rfl (by simp [Value.oneCell']) hB (by omega) (by unfold maxLen; omega) ?_; intro v' w7 o7 k7 hat7; obtain ⟨A', c', rfl⟩ := own_shape o7; have v7 := fv.keep k7 (by simpa using hne); have c7 := v7.cell 0; have z7 := v7.frozen 0; simp at c7))
      obtain ⟨n1, n2, n3⟩ := boxed_append frow fv (by decide) k7 o7
      have hlt' := fun x hx => (frow.lt x (by simpa using hx)).1
      have e1 : (pre ++ [i]).length = pre.length + 1 := by simp
      have n5 := (HK6.out.mono (G := g8 :: (Value.slice A pre.length c).ownBlock.toList) (by simp)).trans n3 (fun y hy _ => hy)
      have hcl : ∀ y, y ∈ (Value.slice A pre.length c).ownBlock.toList → W3.heap.size ≤ y := fun y hy => hlt' y (by simpa using hy)
      have hz3 := hK.size
      have hfar : ∀ y, y < W3.heap.size → y ≠ g8 → y ∉ g8 :: (Value.slice A pre.length c).ownBlock.toList := fun y hy hne hm => by
        rcases List.mem_cons.1 hm with h | h
        · exact hne h
        · have := hcl y h; omega
      refine ⟨n5.from (fun y hy => ?_), Same.keep n5 (fun y hy => ⟨hC y hy, hfar y ?_ ?_⟩), HLi.out, ⟨_, ?_, n1⟩, f2.keep n3 (hfar _ (by omega) (by omega)), f3.keep n3 (hfar _ (by omega) (by omega)), f4.keep n3 (hfar _ (by omega) (by omega)), hK6.trans n3 (fun y hy hys => ?_)⟩
      · rcases List.mem_cons.1 hy with rfl | hy
        · exact .inl (by omega)
        · exact .inr (hWcells y hy)
      · simp only [List.mem_cons, List.not_mem_nil, or_false] at hy
        rcases hy with rfl | rfl <;> omega
      · simp only [List.mem_cons, List.not_mem_nil, or_false] at hy
        rcases hy with rfl | rfl <;> omega
      · rw [e1, HRO.out, List.flatMap_append]
        rw [show g8 + 2 = W3.heap.size by omega]
        exact n2
      · rcases List.mem_cons.1 hy with h | h
        · simp [h]
        · have := hcl y h; omega
  case done =>
    rintro D ys W hD rfl ⟨hlate, ⟨V, hrow, hv⟩, e2, e3, e4, hK⟩ hD2
    have HMM : Hid (modeM x s = ⟨rowsIn x s T (bitsL s), 0, true⟩) := by show _ = _; rw [HM.out, hlate]
    have hrl := rowsIn_len x s T (bitsL s)
    have av := hv.cell 0
    have a2 := e2.cell 0
    have z2 := e2.frozen 0
    have a3 := e3.cell 0
    have z3 := e3.frozen 0
    have a4 := e4.cell 0
    have z4 := e4.frozen 0
    simp at av a2 a3 a4
    obtain ⟨A, c, rfl⟩ := own_shape hrow
    rw [← hrl] at hrow av hv
    clear hrl hlate
    generalize rowsIn x s T (bitsL s) = rs at *
    gi_wp2
    have n1 := keep_set W (w.heap.size + 2) 0 (.slice A rs.length c)
    have n2 := keep_set (W.setCell ⟨w.heap.size + 2, 0, none⟩ (.slice A rs.length c)) (w.heap.size + 3) 0 (.int .i64 0)
    have n3 := keep_set ((W.setCell ⟨w.heap.size + 2, 0, none⟩ (.slice A rs.length c)).setCell ⟨w.heap.size + 3, 0, none⟩ (.int .i64 0)) (w.heap.size + 4) 0 (.bool true)
    have n4 : Keep [w.heap.size + 2, w.heap.size + 3, w.heap.size + 4] W _ := ((n1.mono (by simp)).trans n2 (by simp)).trans n3 (by simp)
    have m2 := ((e2.set_ 0 (.slice A rs.length c)).keep n2 (by simp)).keep n3 (by simp)
    have m3 := ((e3.keep n1 (by simp)).set_ 0 (.int .i64 0)).keep n3 (by simp)
    have m4 := ((e4.keep n1 (by simp)).keep n2 (by simp)).set_ 0 (.bool true)
    have mr := own_keep hrow n4 (fun g hg hm => by have := (hrow.lt g hg).1; simp at hm; omega)
    have hD3 := n4.block D (Array.getElem?_eq_some_iff.1 hD2).1 (by simp; omega) |>.trans hD2
    refine ⟨by simp, .inl ⟨_, _, rfl, run_takeDeferred hD3, ?_⟩⟩
    have r2 := (blk_putObj (.deferred none) m2 hD3 rfl).cell 0
    have r3 := (blk_putObj (.deferred none) m3 hD3 rfl).cell 0
    have r4 := (blk_putObj (.deferred none) m4 hD3 rfl).cell 0
    have rr := own_putObj (.deferred none) mr hD3 rfl
    have kk := ((K3.trans hK (by intro y hy hlt; simp at hy; omega)).trans n4 (fun y hy hlt => by simp at hy; omega)).trans (keep_putObj _ D (.deferred none)) (fun y hy hlt => by simp at hy; omega)
    simp at r2 r3 r4
    rw [HMM.out]
    exact ⟨.tuple #[.slice A rs.length c, .int .i64 0, .bool true], by simp [results, Tryd.results56, go_sem, r2, r3, r4], A, c, rfl, own_base rr (by omega), kk⟩
  case stop =>
    rintro D c pre W hD hpre ⟨rfl, i, hi, e2, e3, e4, hK⟩ hD2
    have HMM : Hid (modeM x s = ⟨[], i, false⟩) := by show _ = _; rw [HM.out, lateIn_prefix hpre hi]
    have a2 := e2.cell 0
    have a3 := e3.cell 0
    have a4 := e4.cell 0
    simp at a2 a3 a4
    gi_wp2
    have hD3 := hD2
    refine ⟨by simp, .inl ⟨_, _, rfl, run_takeDeferred hD3, ?_⟩⟩
    have r2 := (blk_putObj (.deferred none) e2 hD3 rfl).cell 0
    have r3 := (blk_putObj (.deferred none) e3 hD3 rfl).cell 0
    have r4 := (blk_putObj (.deferred none) e4 hD3 rfl).cell 0
    have kk := (K3.trans hK (by intro y hy hlt; simp at hy; omega)).trans (keep_putObj _ D (.deferred none)) (fun y hy hlt => by simp at hy; omega)
    simp at r2 r3 r4
    rw [HMM.out]
    exact ⟨.tuple #[.slice none 0 0, .int .i64 (i : Int), .bool false], by simp [results, Tryd.results56, go_sem, r2, r3, r4], none, 0, rfl, World.ownsRow_nil _ _ _ _, kk⟩
end Go.Proofs.YtajlkfhekligeaaDoor

namespace Go.Proofs.YtajlkfhekligeaaDoor
open Go.RowKit
attribute [local go_sem] Oper.semAt_some noOut_normal

theorem itFrom_le (own most : Int) (f : Int → Option Int) : ∀ (k : Nat) (w n : Int), itFrom own most f k w = some n → n ≤ most ∧ (0 ≤ w → 0 ≤ n)
  | 0, w, n, h => by simp [itFrom] at h
  | k + 1, w, n, h => by
    rw [itFrom] at h
    split at h
    · rename_i hw
      cases hs : stepM own f w with
      | none => rw [hs] at h; cases h
      | some z =>
        rw [hs] at h
        have h : (if z ≤ w then some w else itFrom own most f k z) = some n := h
        split at h
        · have h : w = n := by simpa using h
          omega
        · have := itFrom_le own most f k z n h
          omega
    · cases h
theorem leastM_le {own most : Int} {f : Int → Option Int} {n : Int} (h : leastM own most f = some n) : 0 ≤ n ∧ n ≤ most := by
  unfold leastM at h
  split at h
  · cases h
  · have := itFrom_le own most f _ _ n h
    omega
/-- Where a task is in time, it is one, and its response is no greater than its deadline. -/
theorem respM_ok {x : Img} {s hold : Nat} {T : List Int} {task : Int} (h : (respM x s hold T task).2 = true) : 0 ≤ task ∧ ∃ t, x.tasks[task.toNat]? = some t ∧ (respM x s hold T task).1.task = task ∧ 0 ≤ (respM x s hold T task).1.resp ∧ (respM x s hold T task).1.resp ≤ t.ded := by
  unfold respM at *
  by_cases h0 : task < 0
  · rw [if_pos h0] at h; cases h
  · rw [if_neg h0] at h ⊢
    cases ht : x.tasks[task.toNat]? with
    | none => rw [ht] at h; cases h
    | some t =>
      rw [ht] at h
      refine ⟨by omega, t, rfl, rfl, ?_⟩
      cases hr : respAt x s hold T task.toNat t with
      | none =>
        have h : (respAt x s hold T task.toNat t).isSome = true := h
        rw [hr] at h; cases h
      | some n =>
        have := leastM_le hr
        show 0 ≤ (respAt x s hold T task.toNat t).getD 0 ∧ (respAt x s hold T task.toNat t).getD 0 ≤ t.ded
        rw [hr]
        exact this
theorem modeM_rows {x : Img} {s : Nat} (h : (modeM x s).ok = true) : ∀ r ∈ (modeM x s).rows, ∃ k : Nat, ∃ t, r.task = (k : Int) ∧ x.tasks[k]? = some t ∧ 0 ≤ r.resp ∧ r.resp ≤ t.ded := by
  intro r hr
  unfold modeM at *
  cases hl : lateIn x s (ceilOf x.tasks s) (bitsL s) with
  | some i => rw [hl] at h; cases h
  | none =>
    rw [hl] at hr
    have hr : r ∈ rowsIn x s (ceilOf x.tasks s) (bitsL s) := hr
    unfold rowsIn at hr
    obtain ⟨i, hi, rfl⟩ := List.mem_map.1 hr
    unfold lateIn at hl
    have := List.find?_eq_none.1 hl i hi
    have hok : (respM x s s (ceilOf x.tasks s) (i : Int)).2 = true := by simpa using this
    obtain ⟨_, t, h1, h2, h3, h4⟩ := respM_ok hok
    exact ⟨i, t, h2, by simpa using h1, h3, h4⟩
def aheadOf (l : List Tsk) (r : RowM) : Int := (match l[r.task.toNat]? with | some t => t.ded | none => 0) - r.resp
def slackIn (l : List Tsk) (rs : List RowM) : Int := rs.foldl (fun m r => min m (aheadOf l r)) 4096
def slackM (x : Img) (s : Nat) : Option Int := if (modeM x s).ok && !(modeM x s).rows.isEmpty then some (slackIn x.tasks (modeM x s).rows) else none
theorem slackIn_snoc (l : List Tsk) (rs : List RowM) (r : RowM) : slackIn l (rs ++ [r]) = min (slackIn l rs) (aheadOf l r) := by simp [slackIn]
theorem row_len (r : RowM) : (rowCells r).length = 3 := rfl
theorem modeM_len (x : Img) (s : Nat) : (modeM x s).rows.length ≤ 32 := by
  unfold modeM
  split
  · simp
  · rw [rowsIn_len]; exact bitsL_le s

set_option maxRecDepth 100000 in
set_option maxHeartbeats 2000000 in
theorem slack_any (v : ImgV) (x : Img) (s : Nat) (w : World) (hT : Tab w) (h : ImgAt w v x) (hs : s < 4294967296) (hx : Small x) :
    Calls Tryd.prog 74 #[.agg (imgCells v x).toArray, .int .u32 (s : Int)] w fun e w' => e = .returned (numRes (slackM x (s &&& allSet (min x.tasks.length 32)))) ∧ Keep [] w w' := by
  have b0 := img_box w v x
  have K0 := (Keep.refl [] w).alloc (.cells (imgCells v x).toArray 26)
  have hlt := h.lt
  have hal : allSet (min x.tasks.length 32) < 4294967296 := allSet_lt (Nat.min_le_right _ _)
  have hsa : s &&& allSet (min x.tasks.length 32) < 4294967296 := Nat.lt_of_le_of_lt Nat.and_le_left hs
  have HA := fun w => Lib.hid (all_any v x w hlt)
  have HM := fun w' hk => Lib.hid (mode_any v x (s &&& allSet (min x.tasks.length 32)) w' (hT.keep0 hk) (h.keep0 hk) hsa hx)
  have HU : Hid (bits .and .u32 (s : Int) (allSet (min x.tasks.length 32) : Int) = ((s &&& allSet (min x.tasks.length 32) : Nat) : Int)) := u32_and_nat s _ hs hal
  have HIC : Hid ((imgCells v x).length = 4) := show _ = _ from rfl
  have HCI : Hid (∀ w', Keep [] (w.alloc (.cells (imgCells v x).toArray 26)) w' → CellsAt w' w.heap.size 0 (imgCells v x)) := fun w' hk => (b0.keep0 hk).cellsAt
  have HI := Lib.hid h
  have HSm := Lib.hid hx
  have HI1 : Hid (∀ w', Keep [] (w.alloc (.cells (imgCells v x).toArray 26)) w' → w'.cell? ⟨w.heap.size, 1, none⟩ = some (.slice v.ta x.tasks.length v.tc)) := fun w' hk => img_c1 (b0.keep0 hk)
  clear b0 h hT hx
  generalize allSet (min x.tasks.length 32) = al at *
  generalize hsq : s &&& al = sq at *
  generalize imgCells v x = ic at *
  obtain ⟨W0, hW0⟩ : ∃ W0, w.alloc (.cells ic.toArray 26) = W0 := ⟨_, rfl⟩
  rw [hW0] at K0 HCI HI1
  have HW := Lib.hid hW0
  clear hW0 hsq
  go_enter Tryd.func74, Tryd.ntmps74
  go_wp2_with (rw [HW.out])
  refine ap_begin 12 (Keep [] W0) rfl (Keep.refl _ _).drew (fun hS hPan => ?_) (fun _ _ d _ _ h => by cases d <;> exact h)
  refine ap_agg 0 26 (.tmp 2) ic rfl (by kernel_rfl) (by kernel_rfl) (by kernel_rfl) (by kernel_rfl) (by rfl) hPan rfl rfl (by rw [HIC.out]; exact agg_image) HCI.out hS ?_
  (simp only [Act.put, List.setIfInBounds_toArray, List.set_cons_zero, List.set_cons_succ])
  (refine ap_val (v := ?_) 1 rfl (by kernel_rfl) (by kernel_rfl) (by kernel_rfl) (by kernel_rfl) (by rfl) hPan ?_ hS ?_; rotate_left; (intro w' hSw; go_simp; try with_reducible rfl); simp only [Act.put, List.setIfInBounds_toArray, List.set_cons_zero, List.set_cons_succ])
  refine ap_agg 2 26 (.tmp 2) ic rfl (by kernel_rfl) (by kernel_rfl) (by kernel_rfl) (by kernel_rfl) (by rfl) hPan rfl rfl (by rw [HIC.out]; exact agg_image) HCI.out hS ?_
  (simp only [Act.put, List.setIfInBounds_toArray, List.set_cons_zero, List.set_cons_succ])
  refine ap_one 3 (by kernel_rfl) ?_
  refine op_call (f := 95) (vs := #[.agg ic.toArray]) 3 rfl (by rfl) rfl (by simp only [List.map_toArray, List.map_cons, List.map_nil]; rfl) Tryd.func95 (by kernel_rfl) (by kernel_rfl) (HA _).out ?_
  rintro e w5 ⟨rfl, k5⟩
  have hS5 := hS.then k5
  refine ⟨_, rfl, fun _ => hS5, ?_⟩
  clear hS k5
  have hS := hS5
  clear hS5
  (simp only [Act.put, List.setIfInBounds_toArray, List.set_cons_zero, List.set_cons_succ])
  have hu := HU.out
  (refine ap_val (v := ?_) 4 rfl (by kernel_rfl) (by kernel_rfl) (by kernel_rfl) (by kernel_rfl) (by rfl) hPan ?_ hS ?_; rotate_left; (intro w' hSw; go_simp; try with_reducible rfl); simp only [Act.put, List.setIfInBounds_toArray, List.set_cons_zero, List.set_cons_succ])
  clear hu
  refine ap_one 5 (by kernel_rfl) ?_
  refine op_call (f := 56) (vs := #[.agg ic.toArray, .int .u32 (sq : Int)]) 5 rfl (by rfl) rfl (by simp only [List.map_toArray, List.map_cons, List.map_nil]; rfl) Tryd.func56 (by kernel_rfl) (by kernel_rfl) (HM _ (K0.then hS)).out ?_
  rintro e w6 ⟨A, c, rfl, o6, k6⟩
  have hS6 := hS.then k6
  refine ⟨_, rfl, fun _ => hS6, ?_⟩
  clear hS k6
  have hS := hS6
  clear hS6
  (simp only [Act.put, List.setIfInBounds_toArray, List.set_cons_zero, List.set_cons_succ])
  (refine ap_val (v := ?_) 6 rfl (by kernel_rfl) (by kernel_rfl) (by kernel_rfl) (by kernel_rfl) (by rfl) hPan ?_ hS ?_; rotate_left; (intro w' hSw; go_simp; try with_reducible rfl); simp only [Act.put, List.setIfInBounds_toArray, List.set_cons_zero, List.set_cons_succ])
  (refine ap_val (v := ?_) 7 rfl (by kernel_rfl) (by kernel_rfl) (by kernel_rfl) (by kernel_rfl) (by rfl) hPan ?_ hS ?_; rotate_left; (intro w' hSw; go_simp; try with_reducible rfl); simp only [Act.put, List.setIfInBounds_toArray, List.set_cons_zero, List.set_cons_succ])
  (refine ap_val (v := ?_) 8 rfl (by kernel_rfl) (by kernel_rfl) (by kernel_rfl) (by kernel_rfl) (by rfl) hPan ?_ hS ?_; rotate_left; (intro w' hSw; go_simp; try with_reducible rfl); simp only [Act.put, List.setIfInBounds_toArray, List.set_cons_zero, List.set_cons_succ])
  (refine ap_val (v := ?_) 9 rfl (by kernel_rfl) (by kernel_rfl) (by kernel_rfl) (by kernel_rfl) (by rfl) hPan ?_ hS ?_; rotate_left; (intro w' hSw; go_simp; try with_reducible rfl); simp only [Act.put, List.setIfInBounds_toArray, List.set_cons_zero, List.set_cons_succ])
  (refine ap_val (v := ?_) 10 rfl (by kernel_rfl) (by kernel_rfl) (by kernel_rfl) (by kernel_rfl) (by rfl) hPan ?_ hS ?_; rotate_left; (intro w' hSw; go_simp; try with_reducible rfl); simp only [Act.put, List.setIfInBounds_toArray, List.set_cons_zero, List.set_cons_succ])
  (refine ap_val (v := ?_) 11 rfl (by kernel_rfl) (by kernel_rfl) (by kernel_rfl) (by kernel_rfl) (by rfl) hPan ?_ hS ?_; rotate_left; (intro w' hSw; go_simp; try with_reducible rfl); simp only [Act.put, List.setIfInBounds_toArray, List.set_cons_zero, List.set_cons_succ])
  refine ap_one 12 (by kernel_rfl) ?_
  refine op_run (v := .bool (modeM x sq).ok) (w' := w6) 12 rfl (by rfl) (by go_simp) ?_
  refine ⟨fun _ => hS, ap_done (by kernel_rfl) ?_ _⟩
  (simp only [Act.put, List.setIfInBounds_toArray, List.set_cons_zero, List.set_cons_succ])
  have HS := Lib.hid hS
  have HR := Lib.hid (Reads.of_own o6)
  have HB : Hid (slackM x sq = if (modeM x sq).ok && !(modeM x sq).rows.isEmpty then some (slackIn x.tasks (modeM x sq).rows) else none) := rfl
  have HMR := Lib.hid (modeM_rows (x := x) (s := sq))
  have HML := Lib.hid (modeM_len x sq)
  clear hS hPan o6 HM HA HU
  generalize modeM x sq = m at *
  obtain ⟨rs, ia, ok⟩ := m
  cases hok : ok with
  | false =>
    have HN : Hid (numRes (slackM x sq) = .tuple #[.int .i64 0, .bool false]) := by show _ = _; rw [HB.out, hok]; rfl
    clear hok
    go_wp2
    go_ret2
    exact ⟨by rw [HN.out]; rfl, K0.then HS.out⟩
  | true =>
    subst hok
    have HMR2 : Hid (∀ r ∈ rs, ∃ k : Nat, ∃ t, r.task = (k : Int) ∧ x.tasks[k]? = some t ∧ 0 ≤ r.resp ∧ r.resp ≤ t.ded) := HMR.out rfl
    clear HMR
    rcases Nat.eq_zero_or_pos rs.length with h0 | h0
    · have HN : Hid (numRes (slackM x sq) = .tuple #[.int .i64 0, .bool false]) := by
        show _ = _
        rw [HB.out, List.eq_nil_of_length_eq_zero h0]; rfl
      have hz : ((rs.length : Int) == 0) = true := by rw [h0]; rfl
      clear h0
      go_wp2
      go_ret2
      exact ⟨by rw [HN.out]; rfl, K0.then HS.out⟩
    · have HN : Hid (numRes (slackM x sq) = .tuple #[.int .i64 (slackIn x.tasks rs), .bool true]) := by
        show _ = _
        rw [HB.out]
        cases rs with
        | nil => simp at h0
        | cons a l => rfl
      have hz : ((rs.length : Int) == 0) = false := by simp; intro e; rw [e] at h0; simp at h0
      have HH0 := Lib.hid h0
      clear h0 HB
      go_wp2
      clear hz
      go_loopw [9, 31] (fun m i wr => ∃ k : Nat, k ≤ rs.length ∧ i = .int .i64 k ∧ m = .int .i64 (slackIn x.tasks (rs.take k)) ∧ Keep [] w6 wr) (fun _ i _ => rs.length - (intOf i).toNat)
      case atStart => exact ⟨0, Nat.zero_le _, rfl, rfl, Keep.refl _ _⟩
      case round =>
        obtain ⟨k, hk, rfl, rfl, hK⟩ := hrel
        have hml : rs.length ≤ 32 := HML.out
        by_cases hlt2 : k < rs.length
        · obtain ⟨b, o, rfl, hb, hcell⟩ := (HR.out.keep0 hK).elems rfl (fun r _ => row_len r) (by omega)
          have hc := Lib.hid (hcell k hlt2)
          obtain ⟨q, t, hq, htq, hr0, hr1⟩ := HMR2.out rs[k] (List.getElem_mem hlt2)
          have hst : Hid (slackIn x.tasks (rs.take (k + 1)) = min (slackIn x.tasks (rs.take k)) (t.ded - rs[k].resp)) := by
            show _ = _
            rw [List.take_succ_eq_append_getElem hlt2, slackIn_snoc]
            unfold aheadOf
            rw [hq, Int.toNat_natCast, htq]
          have hql : q < x.tasks.length := (List.getElem?_eq_some_iff.1 htq).1
          have hqt : x.tasks[q] = t := by rw [List.getElem?_eq_getElem hql] at htq; injection htq
          have hcells : rowCells rs[k] = [.int .i64 (q : Int), .int .i64 rs[k].block, .int .i64 rs[k].resp] := by unfold rowCells; rw [hq]
          rw [hcells] at hc
          obtain ⟨b2, o2, hA2, hbw2, hcs2⟩ := HI.out.task (by omega)
          have hct := (hcs2 q hql).keep0 ((K0.then HS.out).then hK) hbw2
          have c1 := hct 1 (.int .i64 t.ded) (by rw [hqt]; rfl)
          have hdd := HSm.out.ded t (List.mem_of_getElem? htq)
          have i1 := HI1.out wr (HS.out.then hK)
          rw [hA2] at i1
          have HFK : Hid (∀ w', Keep [] wr w' → w'.cell? ⟨b2, o2 + q * 11 + 1, none⟩ = some (.int .i64 t.ded) ∧ w'.cell? ⟨w.heap.size, 1, none⟩ = some (.slice (some ⟨b2, o2, none⟩) x.tasks.length v.tc)) := fun w' hw =>
            ⟨(hw.cell (p := ⟨b2, o2 + q * 11 + 1, none⟩) (World.block_lt_of_cell? _ _ c1) (by simp)).trans c1, (hw.cell (p := ⟨w.heap.size, 1, none⟩) (World.block_lt_of_cell? _ _ i1) (by simp)).trans i1⟩
          have hlx : (q : Int) < (x.tasks.length : Int) := by omega
          have hl0 : (0 : Int) ≤ (q : Int) := by omega
          have hKs := Lib.hid hK
          clear hcell hcells htq hct hcs2 c1 i1 hK hqt hq
          generalize rs[k] = rk at *
          generalize rk.block = rb at *
          generalize rk.resp = rc at *
          generalize t.ded = td at *
          generalize slackIn x.tasks (rs.take k) = sl at *
          have hcase : td - rc < sl ∨ sl ≤ td - rc := by omega
          rcases hcase with hcs | hcs
          all_goals
            go_wp2_with (first
              | (refine wpList_load_agg rfl 36 (.tmp 33) rfl rfl (cs := [.int .i64 (q : Int), .int .i64 rb, .int .i64 rc]) agg_row hc.out ?_)
              | (refine stop_store 36 (.tmp 11) (.tmp 34) rfl ?_))
            constructor
            refine wpList_store_all rfl 36 (.tmp 11) (.tmp 34) rfl (vs := [.int .i64 (q : Int), .int .i64 rb, .int .i64 rc]) rfl rfl (by kernel_rfl) (Blk.new _ _ _) (by simp [Value.oneCell']) rfl ?_
            intro w7 d7 k7
            have K7 : Keep [] wr w7 := ((Keep.refl [] wr).alloc _).trans k7 (fun y hy hlt => by simp at hy; omega)
            have hF : ∀ w', Keep [] w7 w' → w'.cell? ⟨b2, o2 + q * 11 + 1, none⟩ = some (.int .i64 td) ∧ w'.cell? ⟨w.heap.size, 1, none⟩ = some (.slice (some ⟨b2, o2, none⟩) x.tasks.length v.tc) ∧ w'.cell? ⟨wr.heap.size, 0, none⟩ = some (.int .i64 (q : Int)) ∧ w'.cell? ⟨wr.heap.size, 2, none⟩ = some (.int .i64 rc) := fun w' hw =>
              ⟨(HFK.out _ (K7.then hw)).1, (HFK.out _ (K7.then hw)).2, (d7.keep0 hw).at_ rfl, (d7.keep0 hw).at_ rfl⟩
            have HK7 := Lib.hid K7
            clear k7 K7 d7
            go_wp2
            refine ap_begin 12 (Keep [] w7) rfl (Keep.refl _ _).drew (fun hS hPan => ?_) (fun _ _ d _ _ h => by cases d <;> exact h)
            (refine ap_val (v := ?_) 0 rfl (by kernel_rfl) (by kernel_rfl) (by kernel_rfl) (by kernel_rfl) (by rfl) hPan ?_ hS ?_; rotate_left; (intro w' hSw; obtain ⟨f1,f2,f3,f4⟩ := hF w' hSw; go_simp; try with_reducible rfl); simp only [Act.put, List.setIfInBounds_toArray, List.set_cons_zero, List.set_cons_succ])
            (refine ap_val (v := ?_) 1 rfl (by kernel_rfl) (by kernel_rfl) (by kernel_rfl) (by kernel_rfl) (by rfl) hPan ?_ hS ?_; rotate_left; (intro w' hSw; obtain ⟨f1,f2,f3,f4⟩ := hF w' hSw; go_simp; try with_reducible rfl); simp only [Act.put, List.setIfInBounds_toArray, List.set_cons_zero, List.set_cons_succ])
            (refine ap_val (v := ?_) 2 rfl (by kernel_rfl) (by kernel_rfl) (by kernel_rfl) (by kernel_rfl) (by rfl) hPan ?_ hS ?_; rotate_left; (intro w' hSw; obtain ⟨f1,f2,f3,f4⟩ := hF w' hSw; go_simp; try with_reducible rfl); simp only [Act.put, List.setIfInBounds_toArray, List.set_cons_zero, List.set_cons_succ])
            (refine ap_val (v := ?_) 3 rfl (by kernel_rfl) (by kernel_rfl) (by kernel_rfl) (by kernel_rfl) (by rfl) hPan ?_ hS ?_; rotate_left; (intro w' hSw; obtain ⟨f1,f2,f3,f4⟩ := hF w' hSw; go_simp; try with_reducible rfl); simp only [Act.put, List.setIfInBounds_toArray, List.set_cons_zero, List.set_cons_succ])
            (refine ap_val (v := ?_) 4 rfl (by kernel_rfl) (by kernel_rfl) (by kernel_rfl) (by kernel_rfl) (by rfl) hPan ?_ hS ?_; rotate_left; (intro w' hSw; obtain ⟨f1,f2,f3,f4⟩ := hF w' hSw; go_simp; try with_reducible rfl); simp only [Act.put, List.setIfInBounds_toArray, List.set_cons_zero, List.set_cons_succ])
            (refine ap_val (v := ?_) 5 rfl (by kernel_rfl) (by kernel_rfl) (by kernel_rfl) (by kernel_rfl) (by rfl) hPan ?_ hS ?_; rotate_left; (intro w' hSw; obtain ⟨f1,f2,f3,f4⟩ := hF w' hSw; go_simp; try with_reducible rfl); simp only [Act.put, List.setIfInBounds_toArray, List.set_cons_zero, List.set_cons_succ])
            (refine ap_val (v := ?_) 6 rfl (by kernel_rfl) (by kernel_rfl) (by kernel_rfl) (by kernel_rfl) (by rfl) hPan ?_ hS ?_; rotate_left; (intro w' hSw; obtain ⟨f1,f2,f3,f4⟩ := hF w' hSw; go_simp; try with_reducible rfl); simp only [Act.put, List.setIfInBounds_toArray, List.set_cons_zero, List.set_cons_succ])
            (refine ap_val (v := ?_) 7 rfl (by kernel_rfl) (by kernel_rfl) (by kernel_rfl) (by kernel_rfl) (by rfl) hPan ?_ hS ?_; rotate_left; (intro w' hSw; obtain ⟨f1,f2,f3,f4⟩ := hF w' hSw; go_simp; try with_reducible rfl); simp only [Act.put, List.setIfInBounds_toArray, List.set_cons_zero, List.set_cons_succ])
            (refine ap_val (v := ?_) 8 rfl (by kernel_rfl) (by kernel_rfl) (by kernel_rfl) (by kernel_rfl) (by rfl) hPan ?_ hS ?_; rotate_left; (intro w' hSw; obtain ⟨f1,f2,f3,f4⟩ := hF w' hSw; go_simp; try with_reducible rfl); simp only [Act.put, List.setIfInBounds_toArray, List.set_cons_zero, List.set_cons_succ])
            (refine ap_val (v := ?_) 9 rfl (by kernel_rfl) (by kernel_rfl) (by kernel_rfl) (by kernel_rfl) (by rfl) hPan ?_ hS ?_; rotate_left; (intro w' hSw; obtain ⟨f1,f2,f3,f4⟩ := hF w' hSw; go_simp; try with_reducible rfl); simp only [Act.put, List.setIfInBounds_toArray, List.set_cons_zero, List.set_cons_succ])
            have hwr : IntKind.i64.wrap (td - rc) = td - rc := IntWalk.i64_in _ (by omega)
            (refine ap_val (v := ?_) 10 rfl (by kernel_rfl) (by kernel_rfl) (by kernel_rfl) (by kernel_rfl) (by rfl) hPan ?_ hS ?_; rotate_left; (intro w' hSw; obtain ⟨f1,f2,f3,f4⟩ := hF w' hSw; go_simp; try with_reducible rfl); simp only [Act.put, List.setIfInBounds_toArray, List.set_cons_zero, List.set_cons_succ])
            clear hwr
            (refine ap_val (v := ?_) 11 rfl (by kernel_rfl) (by kernel_rfl) (by kernel_rfl) (by kernel_rfl) (by rfl) hPan ?_ hS ?_; rotate_left; (intro w' hSw; obtain ⟨f1,f2,f3,f4⟩ := hF w' hSw; go_simp; try with_reducible rfl); simp only [Act.put, List.setIfInBounds_toArray, List.set_cons_zero, List.set_cons_succ])
            refine ap_one 12 (by kernel_rfl) ?_
            first
              | (refine op_run (v := .int .i64 (td - rc)) (w' := w7.drew) 12 rfl (by rfl) (by go_simp <;> omega) ?_; have hv : Hid (min sl (td - rc) = td - rc) := by show _ = _; omega)
              | (refine op_run (v := .int .i64 sl) (w' := w7.drew) 12 rfl (by rfl) (by go_simp <;> omega) ?_; have hv : Hid (min sl (td - rc) = sl) := by show _ = _; omega)
            refine ⟨fun _ => hS, ap_done (by kernel_rfl) ?_ _⟩
            (simp only [Act.put, List.setIfInBounds_toArray, List.set_cons_zero, List.set_cons_succ])
            have HSS := Lib.hid hS
            clear hS hPan hF
            go_wp2
            go_roundw
            case rel => exact ⟨k + 1, by omega, by go_num, by rw [hst.out, hv.out], (hKs.out.then HK7.out).then HSS.out⟩
            case measure => simp [intOf] <;> omega
        · obtain rfl : k = rs.length := by omega
          rw [List.take_length]
          go_wp2
          go_ret2
          exact ⟨by rw [HN.out]; rfl, (K0.then HS.out).then hK⟩
end Go.Proofs.YtajlkfhekligeaaDoor
