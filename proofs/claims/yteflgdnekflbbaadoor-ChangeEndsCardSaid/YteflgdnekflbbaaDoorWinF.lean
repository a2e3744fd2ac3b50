/- How late a task may be along a change (window.Shift's late). Condition: the table of math/bits lies where the program's text lays it; small numbers. How long a change takes, and settles (window.Shift's Span). Condition: the table of math/bits lies where the program's text lays it; small numbers. -/
import Derived.Test.YteflgdnekflbbaaDoorWinC
namespace Go.Proofs.YteflgdnekflbbaaDoor
open Go.RowKit

def lateRes (p : Int × Bool) : Value := .tuple #[.int .i64 p.1, .bool p.2]
set_option maxRecDepth 100000 in
set_option maxHeartbeats 2000000 in
theorem late_any (v : ImgV) (x : Img) (c : Cls) (T L : List Int) (task : Int) (w : World) (hTb : Tab w) (h : ImgAt w v x) (hc : c.Ok) (hT : T.length = 8) (hL : OffOk L) (hx : Small x) (hw : InW x.tasks.length c.both) (hw2 : InW x.tasks.length c.to) :
    Calls Tryd.prog 63 #[.agg (shCells v x c T L).toArray, .int .i64 task] w fun e w' => e = .returned (lateRes (lateM x c T L task)) ∧ Keep [] w w' := by
  obtain ⟨W1, hW1⟩ : ∃ W1, w.alloc (.cells (shCells v x c T L).toArray 120) = W1 := ⟨_, rfl⟩
  have b1 : Blk W1 w.heap.size 120 (shCells v x c T L).toArray := by rw [← hW1]; exact Blk.new _ _ _
  have K1 : Keep [] w W1 := by rw [← hW1]; exact (Keep.refl _ w).alloc _
  have HTo := fun w => Lib.hid (cto_any c w hc)
  have HHa := fun w => Lib.hid (has_any c.to task w hc.to)
  have HE := has_bitN c.to task
  rw [HE] at HHa
  have hparts : ∀ w', Keep [] W1 w' → CellsAt w' w.heap.size 0 (shCells v x c T L) ∧ CellsAt w' w.heap.size 0 (imgCells v x) ∧ CellsAt w' w.heap.size 4 (clsCells c) ∧ CellsAt w' w.heap.size 7 (iv T) := fun w' hk' => sh_parts (b1.keep0 hk') hT
  have HWi := fun w' hk' => Lib.hid (win_any v x c T L task w' (hTb.keep0 (K1.then hk')) (h.keep0 (K1.then hk')) hc hT hL hx hw)
  have HBe := fun w' hk' => Lib.hid (beh_any v x c T L task w' (hTb.keep0 (K1.then hk')) (h.keep0 (K1.then hk')) hc hT hL.1 hx hw2)
  have HSL : Hid ((shCells v x c T L).length = 31) := shCells_len v x c hT hL.1
  have HQ0 := Lib.hid (hparts W1 (Keep.refl _ _)).1
  have HLM : Hid (lateM x c T L task = match winM x c T L task with | none => (0, true) | some n => if has10 c.to task = true then (max n ((behM x c T task).getD 0), (behM x c T task).isNone) else (n, false)) := show _ = _ from rfl
  have HW := Lib.hid hW1
  clear hW1 HE b1 h hTb hx hw hw2
  generalize lateM x c T L task = lm at *
  generalize hbe : behM x c T task = be at *
  generalize hsc : (shCells v x c T L) = sc at *
  cases hwn : winM x c T L task with
  | none =>
    rw [hwn] at HLM HWi
    have HR : Hid (lateRes lm = .tuple #[.int .i64 0, .bool true]) := by show _ = _; rw [HLM.out]; rfl
    go_enter Tryd.func63, Tryd.ntmps63
    go_wp2_with (first
      | rw [HW.out]
      | (refine wpList_load_agg rfl 120 (.tmp 2) rfl rfl (cs := sc) (by rw [HSL.out]; exact agg_shift) HQ0.out ?_)
      | (refine (HWi _ (Keep.refl _ _)).out.mono ?_; rintro e w2 ⟨rfl, k2⟩; rw [numRes_none]))
    go_ret2
    exact ⟨by rw [HR.out]; rfl, K1.then k2⟩
  | some n =>
    rw [hwn] at HLM HWi
    cases hh : has10 c.to task with
    | false =>
      rw [hh] at HHa HLM
      have HR : Hid (lateRes lm = .tuple #[.int .i64 n, .bool false]) := by show _ = _; rw [HLM.out]; rfl
      go_enter Tryd.func63, Tryd.ntmps63
      go_wp2_with (first
        | rw [HW.out]
        | (refine wpList_load_agg rfl 120 (.tmp 2) rfl rfl (cs := sc) (by rw [HSL.out]; exact agg_shift) HQ0.out ?_)
        | (refine (HWi _ (Keep.refl _ _)).out.mono ?_; rintro e w2 ⟨rfl, k2⟩; rw [numRes_some]; have HC2 := Lib.hid (hparts w2 k2).2.2.1)
        | (refine wpList_load_agg rfl 114 (.tmp 17) rfl rfl (cs := clsCells c) agg_cls HC2.out ?_)
        | (refine (HTo _).out.mono ?_; rintro e w3 ⟨rfl, k3⟩)
        | (refine (HHa _).out.mono ?_; rintro e w4 ⟨rfl, rfl⟩))
      go_ret2
      exact ⟨by rw [HR.out]; rfl, (K1.then k2).then k3⟩
    | true =>
      rw [hh] at HHa HLM
      obtain ⟨bg, bs, hbe2, hbr⟩ : ∃ bg bs, numRes be = .tuple #[.int .i64 bg, .bool bs] ∧ (be.getD 0 = bg ∧ be.isNone = !bs) := ⟨be.getD 0, be.isSome, numRes_eq _, rfl, by cases be <;> rfl⟩
      have HR : Hid (lateRes lm = .tuple #[.int .i64 (max n bg), .bool (!bs)]) := by show _ = _; rw [HLM.out]; show lateRes (max n (be.getD 0), be.isNone) = _; rw [hbr.1, hbr.2]; rfl
      rw [hbe2] at HBe
      clear hbe2 hbr HLM hbe
      go_enter Tryd.func63, Tryd.ntmps63
      go_wp2_with (first
        | rw [HW.out]
        | (refine wpList_load_agg rfl 120 (.tmp 2) rfl rfl (cs := sc) (by rw [HSL.out]; exact agg_shift) HQ0.out ?_)
        | (refine (HWi _ (Keep.refl _ _)).out.mono ?_; rintro e w2 ⟨rfl, k2⟩; rw [numRes_some]; have HC2 := Lib.hid (hparts w2 k2).2.2.1)
        | (refine wpList_load_agg rfl 114 (.tmp 17) rfl rfl (cs := clsCells c) agg_cls HC2.out ?_)
        | (refine (HTo _).out.mono ?_; rintro e w3 ⟨rfl, k3⟩; have HC3 := Lib.hid (hparts w3 (k2.then k3)).1; clear HTo)
        | (refine (HHa _).out.mono ?_; rintro e w4 ⟨rfl, rfl⟩; clear HQ0)
        | refine stop_at 25 rfl ?_)
      constructor
      refine wpList_load_agg rfl 120 (.tmp 2) rfl rfl (cs := sc) (by rw [HSL.out]; exact agg_shift) HC3.out ?_
      clear HWi
      go_wp2_with fail
      refine (HBe _ (k2.then k3)).out.mono ?_
      rintro e w5 ⟨rfl, k5⟩
      rcases Int.lt_or_le n bg with hzz | hzz
      all_goals
        go_wp2_with fail
        go_ret2
      · exact ⟨by rw [HR.out, show max n bg = bg by omega]; rfl, ((K1.then k2).then k3).then k5⟩
      · exact ⟨by rw [HR.out, show max n bg = n by omega]; rfl, ((K1.then k2).then k3).then k5⟩
end Go.Proofs.YteflgdnekflbbaaDoor

namespace Go.Proofs.YteflgdnekflbbaaDoor
open Go.RowKit
attribute [local go_sem] Oper.semAt_some

def spanRes (o : Option (Int × Int)) : Value := .tuple #[.agg #[.int .i64 (o.getD (0, 0)).1, .int .i64 (o.getD (0, 0)).2], .bool o.isSome]
theorem spanIn_snoc (x : Img) (c : Cls) (T L : List Int) (pre : List Nat) (i : Nat) : spanIn x c T L (pre ++ [i]) = (max (spanIn x c T L pre).1 (lateM x c T L (i : Int)).1, max (spanIn x c T L pre).2 (offW c L (i : Int))) := by
  unfold spanIn
  rw [List.foldl_append]
  rfl
theorem agg_span : AggOf Tryd.prog 58 2 := ⟨by kernel_rfl, by kernel_rfl⟩
section
variable {P : Program} {w : World}
theorem run_max {ev : Operand → Value} {x y : Operand} {m n : Int} {dst : Option Tmp} {ats : Array TypeId} {tyy : TypeId} {pos : String} {after : Array Edge} {gd : Option (Nat × Bool)} (hx : ev x = .int .i64 m) (hy : ev y = .int .i64 n) :
    (execOp ev ⟨dst, .call { callee := .builtin .max, args := #[x, y], argTypes := ats }, tyy, pos, after, gd⟩).run P w = .ok (.value (.int .i64 (max m n))) w := by
  rcases Int.lt_or_le m n with h | h
  · rw [show max m n = n by omega]
    have h1 : decide (m < n) = true := decide_eq_true h
    have h2 : decide (n < m) = false := decide_eq_false (by omega)
    simp [go_sem, hx, hy, h]
  · rw [show max m n = m by omega]
    have h1 : decide (m < n) = false := decide_eq_false (by omega)
    have h3 : ¬ m < n := by omega
    simp [go_sem, hx, hy, h3]
/-- Results that lie in two cells: a struct's, and one of type bool. -/
theorem results_two {fn : Func} {p q : Tmp} {ty ty2 : TypeId} (h : fn.results = #[.cell p ty, .cell q ty2]) (tmps : Array Value) {g t g2 t2 : Nat} {vs : List Value} {b : Bool} (hp : tmps.getD p undef = .pointer (some ⟨g, 0, none⟩)) (hq : tmps.getD q undef = .pointer (some ⟨g2, 0, none⟩))
    (hb : Blk w g t vs.toArray) (hA : AggOf P ty vs.length) (hb2 : Blk w g2 t2 #[.bool b]) (hu : P.underlying ty2 = some .bool) : (results fn tmps).run P w = .ok (.tuple #[.agg vs.toArray, .bool b]) w := by
  have hp' : tmps[p]?.getD undef = .pointer (some ⟨g, 0, none⟩) := by simpa using hp
  have hq' : tmps[q]?.getD undef = .pointer (some ⟨g2, 0, none⟩) := by simpa using hq
  have hc : CellsAt w g 0 vs := fun j u hu => by rw [Nat.zero_add, hb.cell]; simpa using hu
  have h2 : (loadVar ty2 ⟨g2, 0, none⟩).run P w = .ok (.bool b) w := by
    have c2 := hb2.cell 0
    simp at c2
    unfold loadVar isAgg
    simp only [Sem.run_bind, run_underlying hu w]
    simp [go_sem, c2]
  simp [results, h, hp', hq', asAddr, run_loadVar_agg hA hc, h2]
end
set_option maxRecDepth 100000 in
set_option maxHeartbeats 3000000 in
theorem span_any (v : ImgV) (x : Img) (c : Cls) (T L : List Int) (w : World) (hTb : Tab w) (h : ImgAt w v x) (hc : c.Ok) (hT : T.length = 8) (hL : OffOk L) (hx : Small x) (hw : InW x.tasks.length c.both) (hw2 : InW x.tasks.length c.to) :
    Calls Tryd.prog 48 #[.agg (shCells v x c T L).toArray] w fun e w' => e = .returned (spanRes (spanM x c T L)) ∧ Keep [] w w' := by
  rw [← callsIn_wide (n := 9)]
  refine callsIn_of_wp_marks Tryd.func48 rfl trivial ?_ rfl
  simp only [Tryd.ntmps48, List.size_toArray, List.length_cons, List.length_nil, Nat.reduceAdd, Nat.reduceSub, Array.replicate_succ, Array.replicate_zero, List.push_toArray, List.append_toArray, List.nil_append, List.cons_append]
  obtain ⟨W1, hW1⟩ : ∃ W1, ((((w.alloc (.cells (shCells v x c T L).toArray 120)).alloc (.cells #[.int .i64 0, .int .i64 0] 58)).alloc (.cells #[.bool false] 4)).alloc (.cells #[.int .i64 0] 3)).alloc (.cells #[.int .i64 0] 3) = W1 := ⟨_, rfl⟩
  have a0 : Blk W1 w.heap.size 120 (shCells v x c T L).toArray := by rw [← hW1]; exact ((((Blk.new _ _ _).alloc _).alloc _).alloc _).alloc _
  have a1 : Blk W1 (w.heap.size + 1) 58 #[.int .i64 0, .int .i64 0] := by rw [← hW1]; exact (((Blk.new1 _ _ _ _).alloc _).alloc _).alloc _
  have a2 : Blk W1 (w.heap.size + 2) 4 #[.bool false] := by rw [← hW1]; exact ((Blk.new2 _ _ _ _ _).alloc _).alloc _
  have a3 : Blk W1 (w.heap.size + 3) 3 #[.int .i64 0] := by rw [← hW1]; exact (Blk.new3 _ _ _ _ _ _).alloc _
  have a4 : Blk W1 (w.heap.size + 4) 3 #[.int .i64 0] := by
    rw [← hW1]
    have := Blk.new3 (w.alloc (.cells (shCells v x c T L).toArray 120)) (.cells #[.int .i64 0, .int .i64 0] 58) (.cells #[.bool false] 4) (.cells #[.int .i64 0] 3) 3 #[.int .i64 0]
    rw [World.size_alloc] at this
    exact this
  have K1 : Keep [] w W1 := by rw [← hW1]; exact (((((Keep.refl _ w).alloc _).alloc _).alloc _).alloc _).alloc _
  have hz1 : W1.heap.size = w.heap.size + 5 := by rw [← hW1]; simp
  obtain ⟨W2, hW2⟩ : ∃ W2, (W1.setCell ⟨w.heap.size + 3, 0, none⟩ (.int .i64 0)).setCell ⟨w.heap.size + 4, 0, none⟩ (.int .i64 0) = W2 := ⟨_, rfl⟩
  have K12 : Keep [w.heap.size + 3, w.heap.size + 4] W1 W2 := by rw [← hW2]; exact (((Keep.refl _ W1).setCell (by simp) _).setCell (by simp) _)
  have hz2 : W2.heap.size = w.heap.size + 5 := by have := K12.size; rw [← hW2]; simpa using hz1
  have b0 := a0.keep K12 (by simp)
  have b1 := a1.keep K12 (by simp)
  have b2 := a2.keep K12 (by simp)
  have b3 : Blk W2 (w.heap.size + 3) 3 #[.int .i64 0] := by rw [← hW2]; exact ((a3.set_ 0 (.int .i64 0)).keep (keep_set _ (w.heap.size + 4) 0 _) (by simp))
  have b4 : Blk W2 (w.heap.size + 4) 3 #[.int .i64 0] := by rw [← hW2]; exact ((a4.keep (keep_set W1 (w.heap.size + 3) 0 (.int .i64 0)) (by simp)).set_ 0 (.int .i64 0))
  have K2 : Keep [] w W2 := K1.trans K12 (fun y hy hlt => by simp at hy; omega)
  have c3 := a3.cell 0
  have f3 := a3.frozen 0
  have c4 := (a4.keep (keep_set W1 (w.heap.size + 3) 0 (.int .i64 0)) (by simp)).cell 0
  have f4 := (a4.keep (keep_set W1 (w.heap.size + 3) 0 (.int .i64 0)) (by simp)).frozen 0
  simp at c3 c4
  have HBo := fun w => Lib.hid (both_any c w hc)
  have HQC : Hid (CellsAt W2 w.heap.size 4 (clsCells c)) := (sh_parts b0 hT).2.2.1
  have HSL : Hid ((shCells v x c T L).length = 31) := shCells_len v x c hT hL.1
  have HLT := fun (i : Nat) w' (hk : Keep [] w w') => Lib.hid (late_any v x c T L (i : Int) w' (hTb.keep0 hk) (h.keep0 hk) hc hT hL hx hw hw2)
  have HOF := fun (i : Nat) (hi : i < 16) w' => Lib.hid (off_any v x c T L (i : Int) w' hc hT hL.1 (fun _ => by omega))
  have hlt : ∀ i, i ∈ bitsL c.both → i < 16 := fun i hi => by
    have hb := (bitsL_mem.1 hi).2
    have hn := hx.n
    rcases Nat.lt_or_ge i x.tasks.length with h1 | h1
    · omega
    · rw [hw i h1] at hb; cases hb
  have hTb2 := hTb.keep0 K2
  have hbb := hc.both
  have HSM : Hid (spanM x c T L = if lateL x c T L = [] then some (max (spanIn x c T L (bitsL c.both)).1 (spanIn x c T L (bitsL c.both)).2, (spanIn x c T L (bitsL c.both)).1) else none) := show _ = _ from rfl
  have HLL : Hid (lateL x c T L = (bitsL c.both).filter (fun (i : Nat) => (lateM x c T L (i : Int)).2)) := show _ = _ from rfl
  have hsp0 : spanIn x c T L [] = (0, 0) := rfl
  have HW := Lib.hid hW1
  have HWW := Lib.hid hW2
  clear hW1 hW2 hTb h hx hw hw2 hL
  generalize hsc : shCells v x c T L = sc at *
  gi_wp2_with (first
    | rw [HW.out]
    | rw [HWW.out]
    | (refine wpListIn_agg rfl 114 (.tmp 9) rfl rfl (cs := clsCells c) agg_cls HQC.out ?_)
    | (refine ⟨trivial, ?_⟩; gi_at_call 46; refine (callsIn_wide.2 (HBo _).out).mono ?_; rintro e w5 ⟨rfl, k5⟩)
    | (refine ⟨trivial, ?_⟩; gi_at_call 40; refine (callsIn_wide.2 (maskAll_any c.both _)).mono ?_; rintro e w6 ⟨rfl, hw6⟩))
  have k56 : Keep [] w5 w6 := by rw [← hw6]; exact (Keep.refl _ w5).alloc _
  have d6 : Blk w6 w5.heap.size 36 #[.int .u32 (c.both : Int)] := by rw [← hw6]; exact Blk.new _ _ _
  have hz6 : w6.heap.size = w5.heap.size + 1 := by rw [← hw6]; simp
  have hz5 := k5.size
  have k6 := k5.then k56
  have K6 : Keep [] w w6 := K2.then k6
  have hss := maskAll1_seq 8 c.both w5.heap.size w6 (by omega) d6 hbb (hTb2.keep0 k6)
  replace b0 := b0.keep0 k6
  replace b1 := b1.keep0 k6
  replace b2 := b2.keep0 k6
  replace b3 := b3.keep0 k6
  replace b4 := b4.keep0 k6
  have hT0 := hTb2.1
  clear hw6 HW HWW HQC a0 a1 a2 a3 a4 c3 c4 f3 f4 K1 K12 K2 k5 k56 k6 hTb2
  refine wpIn_rangeT (F := Fence.wide) (n := 9) (Lo := fun _ _ => False) (ps := #[13]) rfl (by omega) (gf := 56) (lb := #[.pointer (some ⟨w5.heap.size, 0, none⟩)]) rfl trivial (enters_of Tryd.func56 (by kernel_rfl) rfl)
    (hss.toT _) Same.trans (fun W _ o' _ _ => same_putO (by simp; omega) o') (Below.refl _ _) (fun _ => rfl)
    (fun pre W' => (∀ (i : Nat), i ∈ pre → (lateM x c T L (i : Int)).2 = false) ∧ (Blk W' (w.heap.size + 3) 3 #[.int .i64 (spanIn x c T L pre).1] ∧ (Blk W' (w.heap.size + 4) 3 #[.int .i64 (spanIn x c T L pre).2] ∧ Keep [w.heap.size + 3, w.heap.size + 4] w6 W')))
    (fun c' pre W' => (c' = .ret ∧ ∃ i : Nat, i ∈ pre ∧ (lateM x c T L (i : Int)).2 = true) ∧ (Blk W' (w.heap.size + 1) 58 #[.int .i64 0, .int .i64 0] ∧ (Blk W' (w.heap.size + 2) 4 #[.bool false] ∧ Keep [w.heap.size + 1, w.heap.size + 2, w.heap.size + 3, w.heap.size + 4] w6 W')))
    ?hI ?hIx ⟨(fun i hi => absurd hi (by simp)), (by rw [hsp0]; exact b3), (by rw [hsp0]; exact b4), Keep.refl _ _⟩
    (fun i => { tmps := #[.agg sc.toArray, .pointer (some ⟨w.heap.size, 0, none⟩), .pointer (some ⟨w.heap.size + 1, 0, none⟩), .pointer (some ⟨w.heap.size + 2, 0, none⟩), .pointer (some ⟨w.heap.size + 3, 0, none⟩), .pointer (some ⟨w.heap.size + 4, 0, none⟩), .int .i64 (i : Int), undef, undef,
      .pointer (some ⟨w.heap.size, 4, none⟩), .agg (clsCells c).toArray, .int .u32 (c.both : Int), .func (.func 56) #[] #[.pointer (some ⟨w5.heap.size, 0, none⟩)], .int .i64 (i : Int),
      undef, undef, undef, undef, undef, undef, undef, undef, undef, undef, undef, undef, undef, undef, undef, undef, undef, undef, undef, undef, undef], defers := [] }) ?assign ?body ?done ?stop
  case hI =>
    exact OwnFrom.toT (OwnFrom.and (fun _ _ _ _ hs _ _ => hs) (OwnFrom.and (blk_own _ _ _) (OwnFrom.and (blk_own _ _ _) (keep_own (Nat.le_refl _)))))
  case hIx =>
    intro c'
    exact OwnFrom.toT (OwnFrom.and (fun _ _ _ _ hs _ _ => hs) (OwnFrom.and (blk_own _ _ _) (OwnFrom.and (blk_own _ _ _) (keep_own (Nat.le_refl _)))))
  case assign =>
    intro l' i W' K hK
    simp only [encN]
    gi_wp2
    exact hK
  case body =>
    rintro l' pre i Wb ⟨hnl, h3, h4, hK⟩ hpre
    have hi16 := hlt i (hpre.subset (by simp))
    have KW : Keep [] w Wb := K6.trans hK (fun y hy hlt => by simp at hy; omega)
    have HLt := HLT i Wb KW
    have HOf := HOF i hi16
    have hsn := spanIn_snoc x c T L pre i
    have e0 := b0.keep hK (by simp)
    have e1 := b1.keep hK (by simp)
    have e2 := b2.keep hK (by simp)
    have HSA : Hid (CellsAt Wb w.heap.size 0 sc) := e0.cellsAt
    have hKz := hK.size
    clear HLT HOF hlt hss
    cases hlm : lateM x c T L (i : Int) with
    | mk ln lb =>
    rw [hlm] at HLt hsn
    cases lb with
    | true =>
      gi_wp2_with (first
        | (refine wpListIn_agg rfl 120 (.tmp 1) rfl rfl (cs := sc) (by rw [HSL.out]; exact agg_shift) HSA.out ?_)
        | (refine ⟨trivial, ?_⟩; gi_at_call 63; refine ((callsIn_wide.2 HLt.out).inRound l').mono ?_; rintro e w8 ⟨rfl, k8⟩; rw [show lateRes (ln, true) = .tuple #[.int .i64 ln, .bool true] from rfl])
        | refine stopIn_store 58 (.tmp 2) (.tmp 21) rfl ?_)
      constructor
      refine wpListIn_store_all rfl 58 (.tmp 2) (.tmp 21) rfl rfl rfl (vs := [.int .i64 0, .int .i64 0]) agg_span.2 (e1.keep0 k8) (by simp [Value.oneCell']) rfl ?_
      intro w9 d9 k9
      have g2 := (e2.keep0 k8).keep k9 (by simp)
      have cg := g2.cell 0
      have fg := g2.frozen 0
      simp at cg
      gi_wp2
      have kA : Keep [w.heap.size + 1, w.heap.size + 2] Wb (w9.setCell ⟨w.heap.size + 2, 0, none⟩ (.bool false)) := ((k8.mono (by simp)).trans (k9.mono (by simp)) (fun y hy _ => hy)).setCell (by simp) _
      refine ⟨kA.from (fun y hy => .inl (by simp at hy; omega)), Same.keep kA (fun y hy => ⟨?_, ?_⟩), ⟨rfl, i, by simp, by rw [hlm]⟩, d9.keep (keep_set _ _ _ _) (by simp), g2.set_ 0 _, (hK.mono (by simp)).trans (kA.mono (by simp)) (fun y hy _ => hy)⟩
      · simp only [List.mem_cons, List.not_mem_nil, or_false] at hy
        rcases hy with rfl | rfl <;> omega
      · simp only [List.mem_cons, List.not_mem_nil, or_false] at hy ⊢
        rcases hy with rfl | rfl <;> omega
    | false =>
      gi_wp2_with (first
        | (refine wpListIn_agg rfl 120 (.tmp 1) rfl rfl (cs := sc) (by rw [HSL.out]; exact agg_shift) HSA.out ?_)
        | (refine ⟨trivial, ?_⟩; gi_at_call 63; refine ((callsIn_wide.2 HLt.out).inRound l').mono ?_; rintro e w8 ⟨rfl, k8⟩; rw [show lateRes (ln, false) = .tuple #[.int .i64 ln, .bool false] from rfl]))
      have hnl2 : ∀ (j : Nat), j ∈ pre ++ [i] → (lateM x c T L (j : Int)).2 = false := fun j hj => by
        rcases List.mem_append.1 hj with h1 | h1
        · exact hnl j h1
        · obtain rfl : j = i := by simpa using h1
          rw [hlm]
      have hsn1 : (spanIn x c T L (pre ++ [i])).1 = max (spanIn x c T L pre).1 ln := by rw [hsn]
      have hsn2 : (spanIn x c T L (pre ++ [i])).2 = max (spanIn x c T L pre).2 (offW c L (i : Int)) := by rw [hsn]
      have h38 := h3.keep0 k8
      have h48 := h4.keep0 k8
      have h08 := e0.keep0 k8
      have HFIN : ∀ wz, Keep [w.heap.size + 3, w.heap.size + 4] w8 wz → Blk wz (w.heap.size + 3) 3 #[.int .i64 (max (spanIn x c T L pre).1 ln)] → Blk wz (w.heap.size + 4) 3 #[.int .i64 (max (spanIn x c T L pre).2 (offW c L (i : Int)))] →
          KeepsFrom w6.heap.size Wb wz ∧ Same [w5.heap.size, 0] Wb wz ∧ (∀ (j : Nat), j ∈ pre ++ [i] → (lateM x c T L (j : Int)).2 = false) ∧ (Blk wz (w.heap.size + 3) 3 #[.int .i64 (spanIn x c T L (pre ++ [i])).1] ∧ (Blk wz (w.heap.size + 4) 3 #[.int .i64 (spanIn x c T L (pre ++ [i])).2] ∧ Keep [w.heap.size + 3, w.heap.size + 4] w6 wz)) := by
        intro wz kz z3 z4
        have kA : Keep [w.heap.size + 3, w.heap.size + 4] Wb wz := (k8.mono (by simp)).trans kz (fun y hy _ => hy)
        refine ⟨kA.from (fun y hy => .inl (by simp at hy; omega)), Same.keep kA (fun y hy => ⟨?_, ?_⟩), hnl2, by rw [hsn1]; exact z3, by rw [hsn2]; exact z4, hK.trans kA (fun y hy _ => hy)⟩
        · simp only [List.mem_cons, List.not_mem_nil, or_false] at hy
          rcases hy with rfl | rfl <;> omega
        · simp only [List.mem_cons, List.not_mem_nil, or_false] at hy ⊢
          rcases hy with rfl | rfl <;> omega
      have HFI := Lib.hid HFIN
      clear HFIN hsn1 hsn2 hsn hnl2 hnl hlm
      generalize (spanIn x c T L pre).1 = p1 at *
      generalize (spanIn x c T L pre).2 = p2 at *
      generalize offW c L (i : Int) = ow at *
      have hF : ∀ w', Keep [] w8 w' → w'.cell? ⟨w.heap.size + 3, 0, none⟩ = some (.int .i64 p1) ∧ w'.cell? ⟨w.heap.size + 4, 0, none⟩ = some (.int .i64 p2) := fun w' hk => by
        have q3 := (h38.keep0 hk).cell 0
        have q4 := (h48.keep0 hk).cell 0
        simp at q3 q4
        exact ⟨q3, q4⟩
      have hSh : ∀ w', Keep [] w8 w' → CellsAt w' w.heap.size 0 sc := fun w' hk => (h08.keep0 hk).cellsAt
      refine ap_start 8 (Keep [] w8) (open_round _) rfl rfl (Keep.refl _ _).drew (fun hS hPan => ?_) (fun _ _ _ _ _ h => h)
      generalize w8.drew = wd at *
      (refine ap_val (v := ?_) 0 rfl (by kernel_rfl) (by kernel_rfl) (by kernel_rfl) (by kernel_rfl) (by rfl) hPan ?_ hS ?_; rotate_left; (intro w' hSw; obtain ⟨f1,f2⟩ := hF w' hSw; go_simp; try with_reducible rfl); simp only [Act.put, List.setIfInBounds_toArray, List.set_cons_zero, List.set_cons_succ])
      (refine ap_val (v := ?_) 1 rfl (by kernel_rfl) (by kernel_rfl) (by kernel_rfl) (by kernel_rfl) (by rfl) hPan ?_ hS ?_; rotate_left; (intro w' hSw; go_simp; try with_reducible rfl); simp only [Act.put, List.setIfInBounds_toArray, List.set_cons_zero, List.set_cons_succ])
      refine ap_val (v := .int .i64 (max p1 ln)) 2 rfl (by kernel_rfl) (by kernel_rfl) (by kernel_rfl) (by kernel_rfl) (by rfl) hPan (fun w' _ => run_max rfl rfl) hS ?_
      (simp only [Act.put, List.setIfInBounds_toArray, List.set_cons_zero, List.set_cons_succ])
      refine ap_agg 4 120 (.tmp 1) sc rfl (by kernel_rfl) (by kernel_rfl) (by kernel_rfl) (by kernel_rfl) (by rfl) hPan rfl rfl (by rw [HSL.out]; exact agg_shift) hSh hS ?_
      (simp only [Act.put, List.setIfInBounds_toArray, List.set_cons_zero, List.set_cons_succ])
      (refine ap_val (v := ?_) 5 rfl (by kernel_rfl) (by kernel_rfl) (by kernel_rfl) (by kernel_rfl) (by rfl) hPan ?_ hS ?_; rotate_left; (intro w' hSw; go_simp; try with_reducible rfl); simp only [Act.put, List.setIfInBounds_toArray, List.set_cons_zero, List.set_cons_succ])
      have hC : Keep [w.heap.size + 3] w8 wd := hS.mono (by simp)
      refine ap_two 3 6 (by kernel_rfl) ?_ ?_
      · skip
        refine op_run (v := .int .i64 p2) (w' := wd) 3 rfl (by rfl) (by obtain ⟨f1, f2⟩ := hF _ hS; go_simp) ?_
        refine ⟨fun _ => hS, ?_⟩
        (simp only [Act.put, List.setIfInBounds_toArray, List.set_cons_zero, List.set_cons_succ])
        refine ap_one 6 (by kernel_rfl) ?_
        refine op_call (f := 64) 6 rfl (by rfl) rfl (by simp only [List.map_toArray, List.map_cons, List.map_nil]; rfl) Tryd.func64 (by kernel_rfl) (by kernel_rfl) (HOf _).out ?_
        rintro e wo ⟨rfl, kq⟩
        replace hS := hS.then kq
        refine ⟨_, rfl, fun _ => hS, ?_⟩
        clear kq
        (simp only [Act.put, List.setIfInBounds_toArray, List.set_cons_zero, List.set_cons_succ])
        refine ap_two 7 8 (by kernel_rfl) ?_ ?_
        · skip
          refine op_run (v := .int .i64 (max p2 ow)) (w' := wo) 7 rfl (by rfl) (run_max rfl rfl) ?_
          refine ⟨fun _ => hS, ?_⟩
          (simp only [Act.put, List.setIfInBounds_toArray, List.set_cons_zero, List.set_cons_succ])
          refine ap_one 8 (by kernel_rfl) ?_
          have q3 := h38.keep0 hS
          have q4 := h48.keep0 hS
          have c3 := (hF _ hS).1
          have fr3 := q3.frozen 0
          refine op_store1 (v := .int .i64 (max p1 ln)) 8 rfl (by rfl) rfl rfl rfl (by kernel_rfl) rfl rfl c3 fr3 ?_
          have kC : Keep [w.heap.size + 3] w8 (World.setCell wo ⟨w.heap.size + 3, 0, none⟩ (.int .i64 (max p1 ln))) := (hS.mono (by simp)).setCell (by simp) _
          have z3 := q3.set_ 0 (.int .i64 (max p1 ln))
          have z4 := q4.keep (keep_set wo (w.heap.size + 3) 0 (.int .i64 (max p1 ln))) (by simp)
          refine ⟨fun h => (by cases h), ?_⟩
          generalize World.setCell wo ⟨w.heap.size + 3, 0, none⟩ (.int .i64 (max p1 ln)) = ws at *
          have c4 := z4.cell 0
          simp at c4
          clear hS c3 fr3
          (simp only [Act.put])
          refine ap_one 9 (by kernel_rfl) ?_
          refine op_store1 (v := .int .i64 (max p2 ow)) 9 rfl (by rfl) rfl rfl rfl (by kernel_rfl) rfl rfl c4 (z4.frozen 0) ?_
          refine ⟨fun h => (by cases h), ap_done (by kernel_rfl) ?_ _⟩
          rw [noOut_normal]
          (simp only [Act.put])
          gi_wp2
          exact HFI.out _ ((kC.mono (by simp)).setCell (by simp) _) (z3.keep (keep_set _ _ _ _) (by simp)) (z4.set_ 0 _)
        · skip
          have q3 := h38.keep0 hS
          have q4 := h48.keep0 hS
          have c3 := (hF _ hS).1
          have fr3 := q3.frozen 0
          refine op_store1 (v := .int .i64 (max p1 ln)) 8 rfl (by rfl) rfl rfl rfl (by kernel_rfl) rfl rfl c3 fr3 ?_
          have kC : Keep [w.heap.size + 3] w8 (World.setCell wo ⟨w.heap.size + 3, 0, none⟩ (.int .i64 (max p1 ln))) := (hS.mono (by simp)).setCell (by simp) _
          have z3 := q3.set_ 0 (.int .i64 (max p1 ln))
          have z4 := q4.keep (keep_set wo (w.heap.size + 3) 0 (.int .i64 (max p1 ln))) (by simp)
          refine ⟨fun h => (by cases h), ?_⟩
          generalize World.setCell wo ⟨w.heap.size + 3, 0, none⟩ (.int .i64 (max p1 ln)) = ws at *
          have c4 := z4.cell 0
          simp at c4
          clear hS c3 fr3
          (simp only [Act.put])
          refine ap_one 7 (by kernel_rfl) ?_
          refine op_run (v := .int .i64 (max p2 ow)) (w' := ws) 7 rfl (by rfl) (run_max rfl rfl) ?_
          refine ⟨fun h => (by cases h), ?_⟩
          (simp only [Act.put, List.setIfInBounds_toArray, List.set_cons_zero, List.set_cons_succ])
          refine ap_one 9 (by kernel_rfl) ?_
          refine op_store1 (v := .int .i64 (max p2 ow)) 9 rfl (by rfl) rfl rfl rfl (by kernel_rfl) rfl rfl c4 (z4.frozen 0) ?_
          refine ⟨fun h => (by cases h), ap_done (by kernel_rfl) ?_ _⟩
          rw [noOut_normal]
          (simp only [Act.put])
          gi_wp2
          exact HFI.out _ ((kC.mono (by simp)).setCell (by simp) _) (z3.keep (keep_set _ _ _ _) (by simp)) (z4.set_ 0 _)
      · skip
        refine op_call (f := 64) 6 rfl (by rfl) rfl (by simp only [List.map_toArray, List.map_cons, List.map_nil]; rfl) Tryd.func64 (by kernel_rfl) (by kernel_rfl) (HOf _).out ?_
        rintro e wo ⟨rfl, kq⟩
        replace hS := hS.then kq
        refine ⟨_, rfl, fun _ => hS, ?_⟩
        clear kq
        (simp only [Act.put, List.setIfInBounds_toArray, List.set_cons_zero, List.set_cons_succ])
        refine ap_two 3 8 (by kernel_rfl) ?_ ?_
        · skip
          refine op_run (v := .int .i64 p2) (w' := wo) 3 rfl (by rfl) (by obtain ⟨f1, f2⟩ := hF _ hS; go_simp) ?_
          refine ⟨fun _ => hS, ?_⟩
          (simp only [Act.put, List.setIfInBounds_toArray, List.set_cons_zero, List.set_cons_succ])
          refine ap_two 7 8 (by kernel_rfl) ?_ ?_
          · skip
            refine op_run (v := .int .i64 (max p2 ow)) (w' := wo) 7 rfl (by rfl) (run_max rfl rfl) ?_
            refine ⟨fun _ => hS, ?_⟩
            (simp only [Act.put, List.setIfInBounds_toArray, List.set_cons_zero, List.set_cons_succ])
            refine ap_one 8 (by kernel_rfl) ?_
            have q3 := h38.keep0 hS
            have q4 := h48.keep0 hS
            have c3 := (hF _ hS).1
            have fr3 := q3.frozen 0
            refine op_store1 (v := .int .i64 (max p1 ln)) 8 rfl (by rfl) rfl rfl rfl (by kernel_rfl) rfl rfl c3 fr3 ?_
            have kC : Keep [w.heap.size + 3] w8 (World.setCell wo ⟨w.heap.size + 3, 0, none⟩ (.int .i64 (max p1 ln))) := (hS.mono (by simp)).setCell (by simp) _
            have z3 := q3.set_ 0 (.int .i64 (max p1 ln))
            have z4 := q4.keep (keep_set wo (w.heap.size + 3) 0 (.int .i64 (max p1 ln))) (by simp)
            refine ⟨fun h => (by cases h), ?_⟩
            generalize World.setCell wo ⟨w.heap.size + 3, 0, none⟩ (.int .i64 (max p1 ln)) = ws at *
            have c4 := z4.cell 0
            simp at c4
            clear hS c3 fr3
            (simp only [Act.put])
            refine ap_one 9 (by kernel_rfl) ?_
            refine op_store1 (v := .int .i64 (max p2 ow)) 9 rfl (by rfl) rfl rfl rfl (by kernel_rfl) rfl rfl c4 (z4.frozen 0) ?_
            refine ⟨fun h => (by cases h), ap_done (by kernel_rfl) ?_ _⟩
            rw [noOut_normal]
            (simp only [Act.put])
            gi_wp2
            exact HFI.out _ ((kC.mono (by simp)).setCell (by simp) _) (z3.keep (keep_set _ _ _ _) (by simp)) (z4.set_ 0 _)
          · skip
            have q3 := h38.keep0 hS
            have q4 := h48.keep0 hS
            have c3 := (hF _ hS).1
            have fr3 := q3.frozen 0
            refine op_store1 (v := .int .i64 (max p1 ln)) 8 rfl (by rfl) rfl rfl rfl (by kernel_rfl) rfl rfl c3 fr3 ?_
            have kC : Keep [w.heap.size + 3] w8 (World.setCell wo ⟨w.heap.size + 3, 0, none⟩ (.int .i64 (max p1 ln))) := (hS.mono (by simp)).setCell (by simp) _
            have z3 := q3.set_ 0 (.int .i64 (max p1 ln))
            have z4 := q4.keep (keep_set wo (w.heap.size + 3) 0 (.int .i64 (max p1 ln))) (by simp)
            refine ⟨fun h => (by cases h), ?_⟩
            generalize World.setCell wo ⟨w.heap.size + 3, 0, none⟩ (.int .i64 (max p1 ln)) = ws at *
            have c4 := z4.cell 0
            simp at c4
            clear hS c3 fr3
            (simp only [Act.put])
            refine ap_one 7 (by kernel_rfl) ?_
            refine op_run (v := .int .i64 (max p2 ow)) (w' := ws) 7 rfl (by rfl) (run_max rfl rfl) ?_
            refine ⟨fun h => (by cases h), ?_⟩
            (simp only [Act.put, List.setIfInBounds_toArray, List.set_cons_zero, List.set_cons_succ])
            refine ap_one 9 (by kernel_rfl) ?_
            refine op_store1 (v := .int .i64 (max p2 ow)) 9 rfl (by rfl) rfl rfl rfl (by kernel_rfl) rfl rfl c4 (z4.frozen 0) ?_
            refine ⟨fun h => (by cases h), ap_done (by kernel_rfl) ?_ _⟩
            rw [noOut_normal]
            (simp only [Act.put])
            gi_wp2
            exact HFI.out _ ((kC.mono (by simp)).setCell (by simp) _) (z3.keep (keep_set _ _ _ _) (by simp)) (z4.set_ 0 _)
        · skip
          have q3 := h38.keep0 hS
          have q4 := h48.keep0 hS
          have c3 := (hF _ hS).1
          have fr3 := q3.frozen 0
          refine op_store1 (v := .int .i64 (max p1 ln)) 8 rfl (by rfl) rfl rfl rfl (by kernel_rfl) rfl rfl c3 fr3 ?_
          have kC : Keep [w.heap.size + 3] w8 (World.setCell wo ⟨w.heap.size + 3, 0, none⟩ (.int .i64 (max p1 ln))) := (hS.mono (by simp)).setCell (by simp) _
          have z3 := q3.set_ 0 (.int .i64 (max p1 ln))
          have z4 := q4.keep (keep_set wo (w.heap.size + 3) 0 (.int .i64 (max p1 ln))) (by simp)
          refine ⟨fun h => (by cases h), ?_⟩
          generalize World.setCell wo ⟨w.heap.size + 3, 0, none⟩ (.int .i64 (max p1 ln)) = ws at *
          have c4 := z4.cell 0
          simp at c4
          clear hS c3 fr3
          (simp only [Act.put])
          refine ap_one 3 (by kernel_rfl) ?_
          refine op_run (v := .int .i64 p2) (w' := ws) 3 rfl (by rfl) (by have f2 := c4; go_simp) ?_
          refine ⟨fun h => (by cases h), ?_⟩
          (simp only [Act.put, List.setIfInBounds_toArray, List.set_cons_zero, List.set_cons_succ])
          refine ap_one 7 (by kernel_rfl) ?_
          refine op_run (v := .int .i64 (max p2 ow)) (w' := ws) 7 rfl (by rfl) (run_max rfl rfl) ?_
          refine ⟨fun h => (by cases h), ?_⟩
          (simp only [Act.put, List.setIfInBounds_toArray, List.set_cons_zero, List.set_cons_succ])
          refine ap_one 9 (by kernel_rfl) ?_
          refine op_store1 (v := .int .i64 (max p2 ow)) 9 rfl (by rfl) rfl rfl rfl (by kernel_rfl) rfl rfl c4 (z4.frozen 0) ?_
          refine ⟨fun h => (by cases h), ap_done (by kernel_rfl) ?_ _⟩
          rw [noOut_normal]
          (simp only [Act.put])
          gi_wp2
          exact HFI.out _ ((kC.mono (by simp)).setCell (by simp) _) (z3.keep (keep_set _ _ _ _) (by simp)) (z4.set_ 0 _)
  case done =>
    rintro D Wd hD ⟨hnl, h3, h4, hK⟩ hD2
    have hno : lateL x c T L = [] := by
      rw [HLL.out, List.filter_eq_nil_iff]
      intro i hi
      rw [hnl i hi]; simp
    have HR : Hid (spanRes (spanM x c T L) = .tuple #[.agg #[.int .i64 (max (spanIn x c T L (bitsL c.both)).1 (spanIn x c T L (bitsL c.both)).2), .int .i64 (spanIn x c T L (bitsL c.both)).1], .bool true]) := by
      show _ = _
      rw [HSM.out, if_pos hno]; rfl
    have e1 := b1.keep hK (by simp)
    have e2 := b2.keep hK (by simp)
    generalize (spanIn x c T L (bitsL c.both)).1 = p1 at *
    generalize (spanIn x c T L (bitsL c.both)).2 = p2 at *
    have q3 := h3.cell 0
    have q4 := h4.cell 0
    simp at q3 q4
    clear HSM HLL HLT HOF hlt hno hnl
    rcases Int.lt_or_le p1 p2 with hzz | hzz
    all_goals
      gi_wp2_with (refine stopIn_store 58 (.tmp 2) (.tmp 34) rfl ?_)
      constructor
      refine wpListIn_store_all rfl 58 (.tmp 2) (.tmp 34) rfl rfl rfl (vs := [.int .i64 _, .int .i64 p1]) agg_span.2 e1 (by simp [Value.oneCell']) rfl ?_
      intro w9 d9 k9
      have g2 := e2.keep k9 (by simp)
      have cg := g2.cell 0
      have fg := g2.frozen 0
      simp at cg
      gi_wp2
      have kA : Keep [w.heap.size + 1, w.heap.size + 2] Wd (w9.setCell ⟨w.heap.size + 2, 0, none⟩ (.bool true)) := (k9.mono (by simp)).setCell (by simp) _
      have d9' := d9.keep (keep_set w9 (w.heap.size + 2) 0 (.bool true)) (by simp)
      have g2' := g2.set_ 0 (.bool true)
      have hKz := hK.size
      have hDl := (Array.getElem?_eq_some_iff.1 hD2).1
      have hD3 := (kA.block D hDl (by simp; omega)).trans hD2
      refine ⟨by simp, .inl ⟨_, _, rfl, run_takeDeferred hD3, ?_⟩⟩
      refine ⟨_, results_two rfl _ rfl rfl (d9'.keep (keep_putObj _ D _) (by simp; omega)) agg_span (g2'.keep (keep_putObj _ D _) (by simp; omega)) Tryd.underlying4, ?_, ?_⟩
      · rw [HR.out]
        first
          | (rw [show max p1 p2 = p2 by omega])
          | (rw [show max p1 p2 = p1 by omega])
      · exact ((K6.trans hK (fun y hy hlt => by simp at hy; omega)).trans kA (fun y hy hlt => by simp at hy; omega)).trans (keep_putObj _ D _) (fun y hy hlt => by simp at hy; omega)
  case stop =>
    rintro D c' pre Wd hD hpre ⟨⟨rfl, i, hi, hli⟩, h1, h2, hK⟩ hD2
    have hne : lateL x c T L ≠ [] := by
      rw [HLL.out]
      intro e
      have := List.filter_eq_nil_iff.1 e i (hpre.subset hi)
      exact this hli
    have HR : Hid (spanRes (spanM x c T L) = .tuple #[.agg #[.int .i64 0, .int .i64 0], .bool false]) := by
      show _ = _
      rw [HSM.out, if_neg hne]; rfl
    clear HSM HLL HLT HOF hlt hne
    gi_wp2
    have hKz := hK.size
    have hDl := (Array.getElem?_eq_some_iff.1 hD2).1
    refine ⟨by simp, .inl ⟨_, _, rfl, run_takeDeferred hD2, ?_⟩⟩
    refine ⟨_, results_two rfl _ rfl rfl (h1.keep (keep_putObj _ D _) (by simp; omega)) agg_span (h2.keep (keep_putObj _ D _) (by simp; omega)) Tryd.underlying4, ?_, ?_⟩
    · rw [HR.out]
    · exact (K6.trans hK (fun y hy hlt => by simp at hy; omega)).trans (keep_putObj _ D _) (fun y hy hlt => by simp at hy; omega)
end Go.Proofs.YteflgdnekflbbaaDoor
