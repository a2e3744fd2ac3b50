/- May a task be late along a change (window.Shift's late). Condition: the table of math/bits lies where the program's text lays it; small numbers. The tasks that may be late along a change, as an iterator (window.Shift's Late). Condition: the table of math/bits lies where the program's text lays it; small numbers. -/
import Derived.Test.YtggjhjbcdnffnaaDoorWinC
namespace Go.Proofs.YtggjhjbcdnffnaaDoor
open Go.RowKit

def lateRes (p : Int × Bool) : Value := .tuple #[.int .i64 p.1, .bool p.2]
set_option maxRecDepth 100000 in
set_option maxHeartbeats 2000000 in
theorem late_any (v : ImgV) (x : Img) (c : Cls) (T L : List Int) (task : Int) (w : World) (hTb : Tab w) (h : ImgAt w v x) (hc : c.Ok) (hT : T.length = 8) (hL : OffOk L) (hx : Small x) (hw : InW x.tasks.length c.both) (hw2 : InW x.tasks.length c.to) :
    Calls Tryd.prog 55 #[.agg (shCells v x c T L).toArray, .int .i64 task] w fun e w' => e = .returned (lateRes (lateM x c T L task)) ∧ Keep [] w w' := by
  obtain ⟨W1, hW1⟩ : ∃ W1, w.alloc (.cells (shCells v x c T L).toArray 37) = W1 := ⟨_, rfl⟩
  have b1 : Blk W1 w.heap.size 37 (shCells v x c T L).toArray := by rw [← hW1]; exact Blk.new _ _ _
  have K1 : Keep [] w W1 := by rw [← hW1]; exact (Keep.refl _ w).alloc _
  have HTo := fun w => Lib.hid (cto_any c w hc)
  have HHa := fun w => Lib.hid (has_any c.to task w hc.to)
  have HE := has_bitN c.to task
  rw [HE] at HHa
  have hparts : ∀ w', Keep [] W1 w' → CellsAt w' w.heap.size 0 (shCells v x c T L) ∧ CellsAt w' w.heap.size 0 (imgCells v x) ∧ CellsAt w' w.heap.size 4 (clsCells c) ∧ CellsAt w' w.heap.size 7 (iv T) := fun w' hk' => sh_parts (b1.keep0 hk') hT
  have HWi := fun w' hk' => Lib.hid (win_any v x c T L task w' (hTb.keep0 (K1.then hk')) (h.keep0 (K1.then hk')) hc hT hL hx hw)
  have HBe := fun w' hk' => Lib.hid (beh_any v x c T L task w' (hTb.keep0 (K1.then hk')) (h.keep0 (K1.then hk')) hc hT hL.1 hx hw2)
  have HSL : Hid ((shCells v x c T L).length = 31) := shCells_len v x c hT hL.1
  have HQ0 := Lib.hid (hparts W1 (Keep.refl _ _)).1
  have HLM : Hid (lateM x c T L task = match winM x c T L task with | none => (0, true) | some n => if has10 c.to task = true then (max n ((behM x c T task).getD 0), (behM x c T task).isNone) else (n, false)) := show _ = _ from rfl
  have HW := Lib.hid hW1
  clear hW1 HE b1 h hTb hx hw hw2
  generalize lateM x c T L task = lm at *
  generalize hbe : behM x c T task = be at *
  generalize hsc : (shCells v x c T L) = sc at *
  cases hwn : winM x c T L task with
  | none =>
    rw [hwn] at HLM HWi
    have HR : Hid (lateRes lm = .tuple #[.int .i64 0, .bool true]) := by show _ = _; rw [HLM.out]; rfl
    go_enter Tryd.func55, Tryd.ntmps55
    go_wp2_with (first
      | rw [HW.out]
      | (refine wpList_load_agg rfl 37 (.tmp 2) rfl rfl (cs := sc) (by rw [HSL.out]; exact agg_shift) HQ0.out ?_)
      | (refine (HWi _ (Keep.refl _ _)).out.mono ?_; rintro e w2 ⟨rfl, k2⟩; rw [numRes_none]))
    go_ret2
    exact ⟨by rw [HR.out]; rfl, K1.then k2⟩
  | some n =>
    rw [hwn] at HLM HWi
    cases hh : has10 c.to task with
    | false =>
      rw [hh] at HHa HLM
      have HR : Hid (lateRes lm = .tuple #[.int .i64 n, .bool false]) := by show _ = _; rw [HLM.out]; rfl
      go_enter Tryd.func55, Tryd.ntmps55
      go_wp2_with (first
        | rw [HW.out]
        | (refine wpList_load_agg rfl 37 (.tmp 2) rfl rfl (cs := sc) (by rw [HSL.out]; exact agg_shift) HQ0.out ?_)
        | (refine (HWi _ (Keep.refl _ _)).out.mono ?_; rintro e w2 ⟨rfl, k2⟩; rw [numRes_some]; have HC2 := Lib.hid (hparts w2 k2).2.2.1)
        | (refine wpList_load_agg rfl 33 (.tmp 17) rfl rfl (cs := clsCells c) agg_cls HC2.out ?_)
        | (refine (HTo _).out.mono ?_; rintro e w3 ⟨rfl, k3⟩)
        | (refine (HHa _).out.mono ?_; rintro e w4 ⟨rfl, rfl⟩))
      go_ret2
      exact ⟨by rw [HR.out]; rfl, (K1.then k2).then k3⟩
    | true =>
      rw [hh] at HHa HLM
      obtain ⟨bg, bs, hbe2, hbr⟩ : ∃ bg bs, numRes be = .tuple #[.int .i64 bg, .bool bs] ∧ (be.getD 0 = bg ∧ be.isNone = !bs) := ⟨be.getD 0, be.isSome, numRes_eq _, rfl, by cases be <;> rfl⟩
      have HR : Hid (lateRes lm = .tuple #[.int .i64 (max n bg), .bool (!bs)]) := by show _ = _; rw [HLM.out]; show lateRes (max n (be.getD 0), be.isNone) = _; rw [hbr.1, hbr.2]; rfl
      rw [hbe2] at HBe
      clear hbe2 hbr HLM hbe
      go_enter Tryd.func55, Tryd.ntmps55
      go_wp2_with (first
        | rw [HW.out]
        | (refine wpList_load_agg rfl 37 (.tmp 2) rfl rfl (cs := sc) (by rw [HSL.out]; exact agg_shift) HQ0.out ?_)
        | (refine (HWi _ (Keep.refl _ _)).out.mono ?_; rintro e w2 ⟨rfl, k2⟩; rw [numRes_some]; have HC2 := Lib.hid (hparts w2 k2).2.2.1)
        | (refine wpList_load_agg rfl 33 (.tmp 17) rfl rfl (cs := clsCells c) agg_cls HC2.out ?_)
        | (refine (HTo _).out.mono ?_; rintro e w3 ⟨rfl, k3⟩; have HC3 := Lib.hid (hparts w3 (k2.then k3)).1; clear HTo)
        | (refine (HHa _).out.mono ?_; rintro e w4 ⟨rfl, rfl⟩; clear HQ0)
        | refine stop_at 25 rfl ?_)
      constructor
      refine wpList_load_agg rfl 37 (.tmp 2) rfl rfl (cs := sc) (by rw [HSL.out]; exact agg_shift) HC3.out ?_
      clear HWi
      go_wp2_with fail
      refine (HBe _ (k2.then k3)).out.mono ?_
      rintro e w5 ⟨rfl, k5⟩
      rcases Int.lt_or_le n bg with hzz | hzz
      all_goals
        go_wp2_with fail
        go_ret2
      · exact ⟨by rw [HR.out, show max n bg = bg by omega]; rfl, ((K1.then k2).then k3).then k5⟩
      · exact ⟨by rw [HR.out, show max n bg = n by omega]; rfl, ((K1.then k2).then k3).then k5⟩
end Go.Proofs.YtggjhjbcdnffnaaDoor

namespace Go.Proofs.YtggjhjbcdnffnaaDoor
open Go.RowKit
attribute [local go_sem] Oper.semAt_some

/-- What the iterator holds: the change, the loop's body; and all that lay at the start. -/
structure SL (w0 : World) (Bs By l : Nat) (cs : List Value) (W : World) : Prop where
  sh : Blk W Bs 37 cs.toArray
  yl : Blk W By 86 #[.func (.yield l) #[] #[]]
  low : Below w0.heap.size w0 W
abbrev UsL : List Nat := [45, 3]
theorem SL.kp {w0 : World} {Bs By l B0 B2 : Nat} {cs : List Value} {W W' : World} (h : SL w0 Bs By l cs W) (k : KpU UsL B0 B2 W W') (hB : w0.heap.size ≤ B0) : SL w0 Bs By l cs W' :=
  ⟨k.blk h.sh (by decide), k.blk h.yl (by decide), h.low.trans (k.below.mono hB)⟩
theorem SL.keep0 {w0 : World} {Bs By l : Nat} {cs : List Value} {W W' : World} (h : SL w0 Bs By l cs W) (k : Keep [] W W') : SL w0 Bs By l cs W' :=
  ⟨h.sh.keep0 k, h.yl.keep0 k, h.low.trans ⟨k.os, k.tape, k.output, k.size, fun x hx => k.block x (Nat.lt_of_lt_of_le hx h.low.size) (by simp)⟩⟩
theorem late0_any (v : ImgV) (x : Img) (c : Cls) (T L : List Int) (w : World) : Calls Tryd.prog 53 #[.agg (shCells v x c T L).toArray] w fun e w' =>
    e = .returned (.func (.func 84) #[] #[.pointer (some ⟨w.heap.size, 0, none⟩)]) ∧ w.alloc (.cells (shCells v x c T L).toArray 37) = w' := by
  generalize (shCells v x c T L).toArray = cs
  go_enter Tryd.func53, Tryd.ntmps53
  go_wp2
  go_ret
  exact ⟨rfl, rfl⟩

theorem filt_snoc {p : Nat → Bool} (pre : List Nat) (i : Nat) : (pre ++ [i]).filter p = pre.filter p ++ (if p i = true then [i] else []) := by
  rw [List.filter_append]
  cases h : p i <;> simp [h]
theorem filt_prefix {p : Nat → Bool} {a b : List Nat} (h : a <+: b) : a.filter p <+: b.filter p := by
  obtain ⟨r, rfl⟩ := h
  rw [List.filter_append]
  exact ⟨_, rfl⟩
set_option maxRecDepth 100000 in
set_option maxHeartbeats 2000000 in
theorem late1_seq (n : Nat) (v : ImgV) (x : Img) (c : Cls) (T L : List Int) (w0 w : World) (hx : ImgAt w0 v x) (hTb : Tab w0) (hw0 : Below w0.heap.size w0 w) (hc : c.Ok) (hT : T.length = 8) (hL : OffOk L) (hS : Small x) (hw : InW x.tasks.length c.both) (hw2 : InW x.tasks.length c.to)
    (Bs : Nat) (hBs : Bs < w.heap.size) (hbs : Blk w Bs 37 (shCells v x c T L).toArray) :
    SeqT Fence.wide n Tryd.prog LoN 84 #[.pointer (some ⟨Bs, 0, none⟩)] encN (KpU UsL w0.heap.size (w.heap.size + 2)) (lateL x c T L) w := by
  intro l J Jx W hW hge hJ hJx hY h0
  have hB0 : w0.heap.size ≤ W.heap.size := by have := hw0.size; omega
  have hlow : Below w0.heap.size w0 W := hw0.trans (hW.mono hw0.size)
  have hR : ∀ m pre (y : Nat) W1, J pre W1 → pre ++ [y] <+: lateL x c T L → YieldAt Fence.wide m Tryd.prog l #[.int .i64 (y : Int)] W1 fun e W' =>
      (e = .returned (.bool true) ∧ J (pre ++ [y]) W' ∧ KpU UsL w0.heap.size (w.heap.size + 2) W1 W') ∨ (e = .returned (.bool false) ∧ Jx (pre ++ [y]) W' ∧ KpU UsL w0.heap.size (w.heap.size + 2) W1 W') := fun m pre y W1 hj hp => yieldAt_any open_wide (hY pre y W1 hj hp)
  clear hY
  have HSL : Hid ((shCells v x c T L).length = 31) := shCells_len v x c hT hL.1
  obtain ⟨W0, hW0⟩ : ∃ W0, W.alloc (.cells #[.func (.yield l) #[] #[]] 86) = W0 := ⟨_, rfl⟩
  have K0 : Keep [] W W0 := by rw [← hW0]; exact (Keep.refl _ W).alloc _
  have s0 : SL w0 Bs W.heap.size l (shCells v x c T L) W0 := by
    refine ⟨?_, by rw [← hW0]; exact Blk.new _ _ _, ?_⟩
    · exact Blk.keep0 (show Blk W Bs _ _ from (hW.block Bs hBs).trans hbs) K0
    · exact hlow.trans ⟨K0.os, K0.tape, K0.output, K0.size, fun x hx => K0.block x (by omega) (by simp)⟩
  have hz0 : W0.heap.size = W.heap.size + 1 := by rw [← hW0]; simp
  have kk0 : KpU UsL w0.heap.size (w.heap.size + 2) W W0 := kpu_keep0 K0 hB0
  have j0 := hJ.k0 h0 K0
  have HW := Lib.hid hW0
  have hSF : ∀ w', SL w0 Bs W.heap.size l (shCells v x c T L) w' → w'.cell? ⟨W.heap.size, 0, none⟩ = some (.func (.yield l) #[] #[]) := fun w' h => by rw [h.yl.cell]; rfl
  have HCL : Hid (CellsAt W0 Bs 4 (clsCells c)) := (sh_parts s0.sh hT).2.2.1
  have hSA : ∀ w', SL w0 Bs W.heap.size l (shCells v x c T L) w' → CellsAt w' Bs 0 (shCells v x c T L) := fun w' h => h.sh.cellsAt
  have HBo := fun w => Lib.hid (both_any c w hc)
  have HTb : ∀ w', SL w0 Bs W.heap.size l (shCells v x c T L) w' → Tab w' := fun w' h => hTb.keep0 (keepB h.low)
  have HIm : ∀ w', SL w0 Bs W.heap.size l (shCells v x c T L) w' → ImgAt w' v x := fun w' h => hx.keep0 (keepB h.low)
  have HLT := fun (i : Nat) w' (h : SL w0 Bs W.heap.size l (shCells v x c T L) w') => Lib.hid (late_any v x c T L (i : Int) w' (HTb w' h) (HIm w' h) hc hT hL hS hw hw2)
  have HAW : Hid (lateL x c T L = (bitsL c.both).filter (fun (i : Nat) => (lateM x c T L (i : Int)).2)) := show _ = _ from rfl
  have hT00 := hTb.1
  have hbl : c.both < 4294967296 := hc.both
  clear hx hTb hbs hW0 h0 hw hw2 hS hL
  rw [callsIn_wide, ← callsIn_wide (n := 9)]
  refine callsIn_of_wp_marks Tryd.func84 rfl trivial ?_ rfl
  simp only [Tryd.ntmps84, List.size_toArray, List.length_cons, List.length_nil, Nat.reduceAdd, Nat.reduceSub, Array.replicate_succ, Array.replicate_zero, List.push_toArray, List.append_toArray, List.nil_append, List.cons_append]
  gi_wp2_with (first
    | rw [HW.out]
    | (refine wpListIn_agg rfl 33 (.tmp 6) rfl rfl (cs := clsCells c) agg_cls HCL.out ?_)
    | (refine ⟨trivial, ?_⟩; gi_at_call 38; refine (callsIn_wide.2 (HBo _).out).mono ?_; rintro e w2 ⟨rfl, k2⟩)
    | (refine ⟨trivial, ?_⟩; gi_at_call 54; refine (callsIn_wide.2 (maskAll_any c.both _)).mono ?_; rintro e w4 ⟨rfl, hw4⟩))
  have k4 : Keep [] w2 w4 := by rw [← hw4]; exact (Keep.refl _ w2).alloc _
  have d4 : Blk w4 w2.heap.size 31 #[.int .u32 (c.both : Int)] := by rw [← hw4]; exact Blk.new _ _ _
  have hz4 : w4.heap.size = w2.heap.size + 1 := by rw [← hw4]; simp
  have hS4 := s0.keep0 (k2.then k4)
  have j4 := hJ.k0 j0 (k2.then k4)
  have kk4 := kk0.step (k2.then k4) (by simp) hB0
  have hz2 := k2.size
  have T4 := HTb w4 hS4
  clear hw4 s0 j0 kk0 k2 k4 HW HCL HBo K0
  have hss := maskAll1_seq 8 c.both w2.heap.size w4 (by omega) d4 hbl T4
  refine wpIn_rangeT (F := Fence.wide) (n := 9) (Lo := LoN) (ps := #[10]) rfl (by omega) (gf := 85) (lb := #[.pointer (some ⟨w2.heap.size, 0, none⟩)]) rfl trivial (enters_of Tryd.func85 (by kernel_rfl) rfl)
    (hss.toT _) Same.trans (fun W _ o' _ _ => same_putO (by simp; omega) o') (Below.refl _ _) (fun _ => rfl)
    (fun pre W' => J (pre.filter (fun (i : Nat) => (lateM x c T L (i : Int)).2)) W' ∧ (SL w0 Bs W.heap.size l (shCells v x c T L) W' ∧ KpU UsL w0.heap.size (w.heap.size + 2) W W' ∧ Blk W' w2.heap.size 31 #[.int .u32 (c.both : Int)]))
    (fun c' _ W' => c' = .ret ∧ ∃ q, q <+: lateL x c T L ∧ Jx q W')
    ?hI ?hIx ⟨j4, hS4, kk4, d4⟩
    (fun i => { tmps := #[.func (.yield l) #[] #[], .pointer (some ⟨Bs, 0, none⟩), .pointer (some ⟨W.heap.size, 0, none⟩), .int .i64 (i : Int), undef, undef, .pointer (some ⟨Bs, 4, none⟩), .agg (clsCells c).toArray, .int .u32 (c.both : Int),
      .func (.func 85) #[] #[.pointer (some ⟨w2.heap.size, 0, none⟩)], .int .i64 (i : Int), undef, undef, undef, undef, undef, undef, undef, undef, undef, undef, undef, undef, undef], defers := [] }) ?assign ?body ?done ?stop
  case hI =>
    refine OwnFrom.toT (OwnFrom.and ?_ (OwnFrom.and ?_ (OwnFrom.and ?_ ?_)))
    · exact fun pre X Y row hs hg hr => hJ.own _ X Y row hs hg (fun r e => ⟨by have := (hr r e).1; omega, (hr r e).2⟩)
    · exact fun pre X Y row hs hg hr => ⟨blk_own (β := Unit) _ _ (fun _ => _) () X Y row hs.sh hg hr, blk_own (β := Unit) _ _ (fun _ => _) () X Y row hs.yl hg hr, by
        have k : Keep row.toList X Y := Keep.of_grown hg
        exact hs.low.trans ⟨k.os, k.tape, k.output, k.size, fun y hy => k.block y (Nat.lt_of_lt_of_le hy hs.low.size) (fun hm => by have := (hr y (by simpa using hm)).1; omega)⟩⟩
    · exact fun pre X Y row hs hg hr => KpU.own hB0 () X Y row hs hg (fun r e => ⟨by have := (hr r e).1; omega, (hr r e).2⟩)
    · exact blk_own _ _ _
  case hIx =>
    intro c'
    refine OwnFrom.toT (OwnFrom.and (fun _ _ _ _ hs _ _ => hs) ?_)
    rintro pre X Y row ⟨q, hq, hs⟩ hg hr
    exact ⟨q, hq, hJx.own _ X Y row hs hg (fun r e => ⟨by have := (hr r e).1; omega, (hr r e).2⟩)⟩
  case assign =>
    intro l' i W' K hK
    simp only [encN]
    gi_wp2
    exact hK
  case body =>
    rintro l' pre i Wb ⟨hj, hs, hk, hd⟩ hpre
    have HLt := HLT i Wb hs
    have hpx := filt_prefix (p := fun (i : Nat) => (lateM x c T L (i : Int)).2) hpre
    rw [filt_snoc, ← HAW.out] at hpx
    have hte := filt_snoc (p := fun (i : Nat) => (lateM x c T L (i : Int)).2) pre i
    have HSA := Lib.hid (hSA Wb hs)
    have hyl : ∀ w', Keep [] Wb w' → w'.cell? ⟨W.heap.size, 0, none⟩ = some (.func (.yield l) #[] #[]) := fun w' k => hSF w' (hs.keep0 k)
    clear HLT hSA hSF HIm HTb hss
    cases hlm : lateM x c T L (i : Int) with
    | mk ln lb =>
    rw [hlm] at HLt hpx hte
    have HTE := Lib.hid hte
    clear hte
    have hdl := hd.lt
    have hz9 : w0.heap.size ≤ Wb.heap.size := by have := hk.below.size; omega
    cases lb with
    | false =>
      gi_wp2_with (first
        | (refine wpListIn_agg rfl 37 (.tmp 1) rfl rfl (cs := shCells v x c T L) (by rw [HSL.out]; exact agg_shift) HSA.out ?_)
        | (refine ⟨trivial, ?_⟩; gi_at_call 55; refine ((callsIn_wide.2 HLt.out).inRound l').mono ?_; rintro e w5 ⟨rfl, k5⟩; rw [show lateRes (ln, false) = .tuple #[.int .i64 ln, .bool false] from rfl]))
      refine ⟨fun f h => (by cases h), ?_⟩
      gi_wp2
      refine ⟨k5.from (fun y hy => by simp at hy), Same.keep k5 (fun y hy => ⟨?_, by simp⟩), ?_, hs.keep0 k5, hk.step k5 (by simp) hB0, hd.keep0 k5⟩
      · simp only [List.mem_cons, List.not_mem_nil, or_false] at hy
        rcases hy with rfl | rfl <;> omega
      · rw [HTE.out, if_neg (by simp), List.append_nil]
        exact hJ.k0 hj k5
    | true =>
      rw [if_pos rfl] at hpx
      have HTE2 : Hid ((pre ++ [i]).filter (fun (i : Nat) => (lateM x c T L (i : Int)).2) = pre.filter (fun (i : Nat) => (lateM x c T L (i : Int)).2) ++ [i]) := by show _ = _; rw [HTE.out, if_pos rfl]
      clear HTE
      gi_wp2_with (first
        | (refine wpListIn_agg rfl 37 (.tmp 1) rfl rfl (cs := shCells v x c T L) (by rw [HSL.out]; exact agg_shift) HSA.out ?_)
        | (refine ⟨trivial, ?_⟩; gi_at_call 55; refine ((callsIn_wide.2 HLt.out).inRound l').mono ?_; rintro e w5 ⟨rfl, k5⟩; rw [show lateRes (ln, true) = .tuple #[.int .i64 ln, .bool true] from rfl]; have f5 := hyl w5 k5; obtain ⟨fn, tmps, assign, body, hy, hR⟩ := hR 6 _ i w5 (hJ.k0 hj k5) hpx))
      refine hR.mono ?_
      rintro e w8 (⟨rfl, j8, kr⟩ | ⟨rfl, jx, kr⟩)
      all_goals
        have k5z := k5.size
        have hkf : KeepsFrom w4.heap.size Wb w8 := ⟨by have := kr.other.size; omega, fun k o hk2 ho hc => kr.other.same k o (by have := hk.below.size; omega) ((k5.block k (by have := (Array.getElem?_eq_some_iff.1 ho).1; omega) (by simp)).trans ho) hc⟩
        have d8 := kr.blk (hd.keep0 k5) (by decide)
        have hsm : Same [w2.heap.size, 0] Wb w8 := by
          intro y hy
          simp only [List.mem_cons, List.not_mem_nil, or_false] at hy
          rcases hy with rfl | rfl
          · exact (show w8.heap[w2.heap.size]? = _ from d8).trans (show Wb.heap[w2.heap.size]? = _ from hd).symm
          · exact (kr.below.block _ hT00).trans (k5.block _ (by omega) (by simp))
        gi_wp2
      · refine ⟨hkf, hsm, ?_, (hs.keep0 k5).kp kr (Nat.le_refl _), (hk.step k5 (by simp) hB0).trans kr, d8⟩
        rw [HTE2.out]
        exact j8
      · exact ⟨hkf, hsm, rfl, _, hpx, jx⟩
  case done =>
    rintro D Wd hD ⟨hj, hs, hk, hd⟩ hD2
    gi_wp2
    refine ⟨by simp, .inl ⟨_, _, rfl, run_takeDeferred hD2, ?_⟩⟩
    refine ⟨_, by simp [results, Tryd.results84, go_sem]; rfl, ⟨_, rfl⟩, .inl ?_⟩
    rw [HAW.out]
    exact hJ.own.putObj _ hj (by omega) hD2 rfl
  case stop =>
    rintro D c' pre Wd hD hpre ⟨rfl, q, hq, hjx⟩ hD2
    gi_wp2
    refine ⟨by simp, .inl ⟨_, _, rfl, run_takeDeferred hD2, ?_⟩⟩
    exact ⟨_, by simp [results, Tryd.results84, go_sem]; rfl, ⟨_, rfl⟩, .inr ⟨q, hq, hJx.own.putObj _ hjx (by omega) hD2 rfl⟩⟩
end Go.Proofs.YtggjhjbcdnffnaaDoor
