/- The greatest time that a way takes from a mode (route's Farthest). Condition: the table of math/bits lies where the program's text lays it; an image that may be, a certificate of small numbers. What is known of an image (layer 43's Known). Condition: the table of math/bits lies where the program's text lays it. The farthest mode, by looking at all modes and by looking at the reached ones. Condition: the modes are few. -/
import Derived.Test.YteocldlglklnjaaDoorRouteL
namespace Go.Proofs.YteocldlglklnjaaDoor
open Go.RowKit
attribute [local go_sem] Oper.semAt_some noOut_normal

theorem find_gets (v : ImgV) (x : Img) (vc : CrtV) (c : Crt) (s m : Nat) (w : World) (h : ImgAt w v x) (hc : CrtE w vc c) (hr : (chkImg x).2 = 0) (hl : c.edges.length = x.edges.length) (hB : edgeB c) (hs : s < x.modes.length) (hm : Gets (egs x c) s m) :
    Calls Tryd.prog 21 #[.agg (imgCells v x).toArray, .agg (crtCells vc c).toArray, .int .i64 (s : Int), .int .i64 (m : Int)] w fun e w' =>
      (∃ A n cp, e = .returned (.tuple #[.agg #[.slice A n cp, .int .i64 (HR (egs x c) s x.modes.length m)], .bool true])) ∧ Keep [] w w' := by
  have hM8 := (right_of hr).nm.2
  by_cases e : m = s
  · subst e
    refine (find_eq v x vc c m w hs).mono ?_
    rintro e w' ⟨rfl, k⟩
    refine ⟨⟨none, 0, 0, ?_⟩, k⟩
    rw [hr_start (egs_ok hr hB) hs (by omega)]
    rfl
  · have hm2 : m < x.modes.length := by
      obtain ⟨p, hp⟩ := hm
      exact (way_in hs (fun e he => (egs_ends hr (egsOf hl) e he).2) hp).1
    refine (find_yes v x vc c s m w h hc hr hl hB hs hm2 e).mono ?_
    rintro e w' (⟨A, cp, L, rfl, _, _, k⟩ | ⟨rfl, ⟨h1, _⟩, _⟩)
    · exact ⟨⟨A, L.length, cp, rfl⟩, k⟩
    · exact absurd hm h1
theorem hr_pos {es : List Eg} {s M : Nat} (h : EsOk es M) (hs : s < M) (hM : M ≤ 100) (v : Nat) : 0 ≤ HR es s M v := by
  obtain ⟨_, h2, _⟩ := hr_spec h hs
  rcases h2 v with h3 | ⟨e, he, _, hl⟩
  · rw [h3]
    by_cases e : v = s
    · subst e; rw [t0R_start]; omega
    · rw [t0R_ne e]; unfold farR; omega
  · have h4 := (dr_gets h hs hM e.u).2.1
    have h5 := (h.l e he).1
    omega
/-- The greatest of them. -/
def mostF (es : List Eg) (s M : Nat) (L : List Nat) : Int := L.foldl (fun z m => max z (HR es s M m)) 0
theorem mostF_snoc (es : List Eg) (s M : Nat) (L : List Nat) (m : Nat) : mostF es s M (L ++ [m]) = max (mostF es s M L) (HR es s M m) := by unfold mostF; rw [List.foldl_append]; rfl
set_option maxRecDepth 100000 in
set_option maxHeartbeats 4000000 in
theorem farthest_any (v : ImgV) (x : Img) (vc : CrtV) (c : Crt) (s : Nat) (w : World) (hTb : Tab w) (h : ImgAt w v x) (hc : CrtE w vc c) (hr : (chkImg x).2 = 0) (hl : c.edges.length = x.edges.length) (hB : edgeB c) (hs : s < x.modes.length) :
    Calls Tryd.prog 26 #[.agg (imgCells v x).toArray, .agg (crtCells vc c).toArray, .int .i64 (s : Int)] w fun e w' =>
      (∃ r : Nat, (∀ a, a < 32 → (r.testBit a = true ↔ Gets (egs x c) s a)) ∧ e = .returned (.int .i64 (mostF (egs x c) s x.modes.length (bitsL r)))) ∧ Keep [] w w' := by
  obtain ⟨W0, hW0⟩ : ∃ W0, (((w.alloc (.cells (imgCells v x).toArray 26)).alloc (.cells (crtCells vc c).toArray 30)).alloc (.cells #[.int .i64 (s : Int)] 3)).alloc (.cells #[.int .i64 0] 3) = W0 := ⟨_, rfl⟩
  have b0 : Blk W0 w.heap.size 26 (imgCells v x).toArray := by rw [← hW0]; exact (((img_box w v x).alloc _).alloc _).alloc _
  have b1 : Blk W0 (w.heap.size + 1) 30 (crtCells vc c).toArray := by rw [← hW0]; exact ((Blk.new1 _ _ _ _).alloc _).alloc _
  have b2 : Blk W0 (w.heap.size + 2) 3 #[.int .i64 (s : Int)] := by rw [← hW0]; exact (Blk.new2 _ _ _ _ _).alloc _
  have b3 : Blk W0 (w.heap.size + 3) 3 #[.int .i64 0] := by rw [← hW0]; exact Blk.new3 _ _ _ _ _ _
  have K0 : Keep [] w W0 := by rw [← hW0]; exact ((((Keep.refl [] w).alloc _).alloc _).alloc _).alloc _
  have hz0 : W0.heap.size = w.heap.size + 4 := by rw [← hW0]; simp
  have HIC : Hid ((imgCells v x).length = 4) := show _ = _ from rfl
  have HCC : Hid ((crtCells vc c).length = 2) := show _ = _ from rfl
  have HGR := Lib.hid (greach_yes v x (egs x c) s W0 (hTb.keep0 K0) (h.keep0 K0) hr (egsOf hl) hs)
  have HFG := fun (m : Nat) W (k : Keep [] w W) (hg : Gets (egs x c) s m) => Lib.hid (find_gets v x vc c s m W (h.keep0 k) (hc.keep0 k) hr hl hB hs hg)
  have HRB : Hid (∀ m, Gets (egs x c) s m → 0 ≤ HR (egs x c) s x.modes.length m) := fun m hg => hr_pos (egs_ok hr hB) hs (by have := (right_of hr).nm.2; omega) m
  have HTB := Lib.hid (hTb.keep0 K0)
  have HB0 := Lib.hid b0
  have HB1 := Lib.hid b1
  have HB2 := Lib.hid b2
  have HB3 := Lib.hid b3
  have HIM0 := Lib.hid b0.cellsAt
  have c5 := b2.cell 0
  simp at c5
  have HK0 := Lib.hid K0
  have HW := Lib.hid hW0
  have HZ := Lib.hid hz0
  clear hTb h hc hr hl hB hs b0 b1 b2 b3 K0 hW0 hz0
  generalize egs x c = es at *
  generalize x.modes.length = M at *
  generalize imgCells v x = il at *
  generalize crtCells vc c = cl at *
  rw [← callsIn_wide (n := 9)]
  refine callsIn_of_wp_marks Tryd.func26 rfl trivial ?_ rfl
  simp only [Tryd.ntmps26, List.size_toArray, List.length_cons, List.length_nil, Nat.reduceAdd, Nat.reduceSub, Array.replicate_succ, Array.replicate_zero, List.push_toArray, List.append_toArray, List.nil_append, List.cons_append]
  gi_wp2_with (first
    | (rw [HW.out]; refine wpListIn_agg rfl 26 (.tmp 3) rfl rfl (cs := il) (by rw [HIC.out]; exact agg_image) HIM0.out ?_)
    | (refine ⟨trivial, ?_⟩; gi_at_call 46; refine (callsIn_wide.2 HGR.out).mono ?_; rintro e w5 ⟨r, rfl, hr32, hbits, k5⟩)
    | (refine ⟨trivial, ?_⟩; gi_at_call 47; refine (callsIn_wide.2 (maskAll_any r _)).mono ?_; rintro e w6 ⟨rfl, hw6⟩))
  have k56 : Keep [] w5 w6 := by rw [← hw6]; exact (Keep.refl _ w5).alloc _
  have d14 : Blk w6 w5.heap.size 50 #[.int .u32 (r : Int)] := by rw [← hw6]; exact Blk.new _ _ _
  have sz6 : w6.heap.size = w5.heap.size + 1 := by rw [← hw6]; simp
  have K6 := k5.then k56
  have T6 := HTB.out.keep0 K6
  have hzt := HTB.out.1
  have hz0 := HZ.out
  have hz5 := k5.size
  have hss := maskAll1_seq 8 r w5.heap.size w6 (by omega) d14 hr32 T6
  have m6 := HB3.out.keep0 K6
  have HBI := Lib.hid hbits
  clear hw6 HW HGR c5 k56 k5 hbits
  refine wpIn_rangeT (F := Fence.wide) (n := 9) (Lo := fun _ _ => False) (ps := #[15]) rfl (by omega) (gf := 66) (lb := #[.pointer (some ⟨w5.heap.size, 0, none⟩)]) rfl trivial (enters_of Tryd.func66 (by kernel_rfl) rfl)
    (hss.toT _) Same.trans (fun W _ o' _ _ => same_putO (by simp; omega) o') (Below.refl _ _) (fun _ => rfl)
    (fun pre W' => Blk W' (w.heap.size + 3) 3 #[.int .i64 (mostF es s M pre)] ∧ Keep [w.heap.size + 3] w6 W')
    (fun _ _ _ => False)
    ?hI (fun _ _ _ _ _ hs _ _ => hs) ⟨m6, Keep.refl _ _⟩
    (fun m => { tmps := #[.agg il.toArray, .agg cl.toArray, .int .i64 (s : Int), .pointer (some ⟨w.heap.size, 0, none⟩), .pointer (some ⟨w.heap.size + 1, 0, none⟩), .pointer (some ⟨w.heap.size + 2, 0, none⟩), .int .i64 0, .pointer (some ⟨w.heap.size + 3, 0, none⟩), .int .i64 (m : Int), undef, undef, .agg il.toArray, .int .i64 (s : Int), .int .u32 (r : Int), .func (.func 66) #[] #[.pointer (some ⟨w5.heap.size, 0, none⟩)], .int .i64 (m : Int), undef, undef, undef, undef, undef, undef, undef, undef, undef, undef, undef, undef, undef, undef], defers := [] }) ?assign ?body ?done ?stop
  case hI => exact OwnFrom.toT (OwnFrom.and (blk_own _ _ _) (keep_own (Nat.le_refl _)))
  case assign =>
    intro l i W' K hK
    simp only [encN]
    gi_wp2
    exact hK
  case body =>
    rintro l pre i Wb ⟨hb, hK⟩ hpre
    have hin : i ∈ bitsL r := hpre.subset (by simp)
    obtain ⟨hi32, hib⟩ := bitsL_mem.1 hin
    have KF : Keep [w.heap.size + 3] W0 Wb := (K6.mono (by simp)).trans hK (by simp)
    have KW : Keep [] w Wb := (HK0.out.then K6).trans hK (fun y hy hlt => by simp at hy; omega)
    have hg := (HBI.out i hi32).1 hib
    have HFI := HFG i Wb KW hg
    have HIM := Lib.hid ((HB0.out.keep KF (by simp)).cellsAt)
    have HCM := Lib.hid ((HB1.out.keep KF (by simp)).cellsAt)
    have cs := (HB2.out.keep KF (by simp)).cell 0
    simp at cs
    have HSN := Lib.hid (mostF_snoc es s M pre i)
    have HP := Lib.hid (HRB.out i hg)
    have HB := Lib.hid hb
    have HK := Lib.hid hK
    have hz6 := hK.size
    clear hb hK KF KW hg HFG hss
    gi_wp2_with (first
      | (refine wpListIn_agg rfl 26 (.tmp 3) rfl rfl (cs := il) (by rw [HIC.out]; exact agg_image) HIM.out ?_)
      | (refine wpListIn_agg rfl 30 (.tmp 4) rfl rfl (cs := cl) (by rw [HCC.out]; exact agg_cert) HCM.out ?_)
      | (refine ⟨trivial, ?_⟩; gi_at_call 21; refine ((callsIn_wide.2 HFI.out).inRound l).mono ?_; rintro e w7 ⟨⟨A, n7, cp, rfl⟩, k7⟩)
      | (refine stopIn_store 70 (.tmp 9) (.tmp 22) rfl ?_))
    constructor
    refine wpListIn_store_all rfl 70 (.tmp 9) (.tmp 22) rfl rfl rfl (vs := [.slice A n7 cp, .int .i64 (HR es s M i)]) agg_way.2 (Blk.new _ _ _) (by simp [Value.oneCell']) rfl ?_
    intro w8 d8 k8
    have k78 : Keep [] Wb w8 := (k7.alloc _).trans k8 (fun y hy hlt => by have := k7.size; simp at hy; omega)
    have e1 := d8.at_ (j := 1) (u := .int .i64 (HR es s M i)) rfl
    have hb8 := HB.out.keep0 k78
    have eM := hb8.cell 0
    have fM := hb8.frozen 0
    simp at eM
    have HB8 := Lib.hid hb8
    have HK8 := Lib.hid k78
    clear k7 k8 d8 k78 hb8 HIM HCM cs HFI
    generalize HR es s M i = z1 at *
    generalize mostF es s M pre = z0 at *
    have HLT := Lib.hid HB.out.lt
    rcases Int.lt_or_le z0 z1 with hzz | hzz
    all_goals
      gi_wp2
      have kU : ∀ zz : Int, Keep [w.heap.size + 3] Wb (w8.setCell ⟨w.heap.size + 3, 0, none⟩ (.int .i64 zz)) := fun zz => (HK8.out.mono (by simp)).trans (keep_set w8 _ 0 _) (by simp)
      refine ⟨(kU _).from (fun y hy => .inl (by simp at hy; omega)), Same.keep (kU _) (fun y hy => ⟨by simp only [List.mem_cons, List.not_mem_nil, or_false] at hy; rcases hy with rfl | rfl <;> omega, by simp only [List.mem_cons, List.not_mem_nil, or_false] at hy ⊢; rcases hy with rfl | rfl <;> omega⟩), ?_, HK.out.trans (kU _) (by simp)⟩
      rw [HSN.out]
      first
        | (rw [show max z0 z1 = z1 by omega]; exact HB8.out.set_ 0 _)
        | (rw [show max z0 z1 = z0 by omega]; exact HB8.out.set_ 0 _)
  case done =>
    rintro D W hD ⟨hb, hK⟩ hD2
    have e3 : W.cell? ⟨w.heap.size + 1 + 1 + 1, 0, none⟩ = some (.int .i64 (mostF es s M (bitsL r))) := by
      have := hb.cell 0
      simpa using this
    have hD3 := hD2
    have m3 : Keep [] w W := (HK0.out.then K6).trans hK (fun y hy hlt => by simp at hy; omega)
    have HMM := Lib.hid (m3.trans (keep_putObj _ D (.deferred none)) (fun y hy hlt => by simp at hy; omega))
    clear hb hK m3 HFG hss m6 d14 T6
    gi_wp2
    refine ⟨by simp, .inl ⟨_, _, rfl, run_takeDeferred hD3, ?_⟩⟩
    exact ⟨_, by simp [results, Tryd.results26, go_sem], ⟨r, HBI.out, rfl⟩, HMM.out⟩
  case stop =>
    rintro D cc pre W _ hpre hF _
    exact hF.elim
end Go.Proofs.YteocldlglklnjaaDoor

namespace Go.Proofs.YteocldlglklnjaaDoor
open Go.RowKit
attribute [local go_sem] Oper.semAt_some

theorem longStep_le {x : Img} (h : Small x) {n : Int} (i : Nat) (hn : 0 ≤ n ∧ n ≤ 4096) : 0 ≤ longStep x n i ∧ longStep x n i ≤ 4096 := by
  unfold longStep
  cases e : x.tasks[i]? with
  | none => exact hn
  | some t =>
    have := h.per t (List.mem_of_getElem? e)
    simp only
    omega
theorem longW_le {x : Img} (h : Small x) (is : List Nat) : 0 ≤ longW x is ∧ longW x is ≤ 4096 := by
  unfold longW
  suffices ∀ (l : List Nat) (n : Int), 0 ≤ n ∧ n ≤ 4096 → 0 ≤ l.foldl (longStep x) n ∧ l.foldl (longStep x) n ≤ 4096 from this is 0 (by omega)
  intro l
  induction l with
  | nil => exact fun n hn => hn
  | cons i l ih => exact fun n hn => ih _ (longStep_le h i hn)
theorem lateM_le {x : Img} (h : Small x) (c : Cls) (T : List Int) {L : List Int} (hL : OffOk L) (i : Int) : 0 ≤ (lateM x c T L i).1 ∧ (lateM x c T L i).1 ≤ 20480 := by
  have hw : ∀ n, winM x c T L i = some n → 0 ≤ n ∧ n ≤ 20480 := fun n hn => by
    unfold winM at hn
    split at hn
    · cases e : x.tasks[i.toNat]? with
      | none => rw [e] at hn; cases hn
      | some t =>
        rw [e] at hn
        have h1 := leastM_le (show leastM _ _ _ = some n from hn)
        have h2 := h.ded t (List.mem_of_getElem? e)
        have h3 := offW_le (c := c) hL ((i.toNat : Nat) : Int)
        omega
    · cases hn
  have hb : 0 ≤ (behM x c T i).getD 0 ∧ (behM x c T i).getD 0 ≤ 20480 := by
    cases hbm : behM x c T i with
    | none => simp
    | some n =>
      unfold behM at hbm
      split at hbm
      · cases e : x.tasks[i.toNat]? with
        | none => rw [e] at hbm; cases hbm
        | some t =>
          rw [e] at hbm
          have h1 := leastM_le (show leastM _ _ _ = some n from hbm)
          have h2 := h.ded t (List.mem_of_getElem? e)
          simp only [Option.getD_some]
          omega
      · cases hbm
  unfold lateM
  cases e : winM x c T L i with
  | none => simp
  | some n =>
    have := hw n e
    simp only
    split
    · simp only; omega
    · simp only; omega
theorem spanIn_le {x : Img} (h : Small x) (c : Cls) (T : List Int) {L : List Int} (hL : OffOk L) (is : List Nat) : (0 ≤ (spanIn x c T L is).1 ∧ (spanIn x c T L is).1 ≤ 20480) ∧ 0 ≤ (spanIn x c T L is).2 ∧ (spanIn x c T L is).2 ≤ 20480 := by
  unfold spanIn
  suffices ∀ (l : List Nat) (p : Int × Int), (0 ≤ p.1 ∧ p.1 ≤ 20480) ∧ 0 ≤ p.2 ∧ p.2 ≤ 20480 → (0 ≤ (l.foldl (spanStep x c T L) p).1 ∧ (l.foldl (spanStep x c T L) p).1 ≤ 20480) ∧ 0 ≤ (l.foldl (spanStep x c T L) p).2 ∧ (l.foldl (spanStep x c T L) p).2 ≤ 20480 from this is (0, 0) (by simp)
  intro l
  induction l with
  | nil => exact fun p hp => hp
  | cons i l ih =>
    intro p hp
    refine ih _ ?_
    have h1 := lateM_le h c T hL (i : Int)
    have h2 := offW_le (c := c) hL (i : Int)
    unfold spanStep
    simp only
    omega
theorem edgeM_le {x : Img} (hr : (chkImg x).2 = 0) (ho : x.Ok) (k : Nat) : (0 ≤ (edgeM x k).1.1 ∧ (edgeM x k).1.1 ≤ 536870912) ∧ 0 ≤ (edgeM x k).1.2 ∧ (edgeM x k).1.2 ≤ 536870912 := by
  have hS := small_of hr
  unfold edgeM
  cases e : x.edges[k]? with
  | none => simp
  | some ed =>
    obtain ⟨hk, hke⟩ := List.getElem?_eq_some_iff.1 e
    have hL : OffOk ed.offs := by rw [← hke]; exact (edge_offs hr ho k hk).2
    simp only
    split
    · cases hb : busyM x (clsE x k).from_ with
      | none => simp
      | some n =>
        have := leastM_le (show leastM _ _ _ = some n from hb)
        simp only [Option.getD_some]
        omega
    · split
      · have := longW_le hS (bitsL (clsE x k).both)
        simp only
        omega
      · unfold spanM
        have := spanIn_le hS (clsE x k) (tabE x k) hL (bitsL (clsE x k).both)
        split
        · simp only [Option.getD_some]
          omega
        · simp
theorem edgeB_full {x : Img} (hr : (chkImg x).2 = 0) (ho : x.Ok) : edgeB (fullCrt x) := by
  intro s hs
  obtain ⟨k, _, rfl⟩ := List.mem_map.1 hs
  exact edgeM_le hr ho k
theorem fullCrt_len (x : Img) : (fullCrt x).edges.length = x.edges.length := by unfold fullCrt; simp
set_option maxRecDepth 100000 in
set_option maxHeartbeats 4000000 in
theorem known_yes (v : ImgV) (x : Img) (w : World) (hTb : Tab w) (h : ImgAt w v x) (hg : greatImg x = false) (ha : (admM x).2.2 = 0) :
    Calls Tryd.prog 19 #[.agg (imgCells v x).toArray] w fun e w' => ∃ vc, e = .returned (.tuple #[.agg (crtCells vc (fullCrt x)).toArray, .bool true]) ∧ CrtE w' vc (fullCrt x) ∧ Keep [] w w' := by
  obtain ⟨W0, hW0⟩ : ∃ W0, (w.alloc (.cells (imgCells v x).toArray 26)).alloc (.cells #[.slice none 0 0, .slice none 0 0] 30) = W0 := ⟨_, rfl⟩
  have b0 : Blk W0 w.heap.size 26 (imgCells v x).toArray := by rw [← hW0]; exact (img_box w v x).alloc _
  have b1 : Blk W0 (w.heap.size + 1) 30 #[.slice none 0 0, .slice none 0 0] := by rw [← hW0]; exact Blk.new1 _ _ _ _
  have K0 : Keep [] w W0 := by rw [← hW0]; exact ((Keep.refl [] w).alloc _).alloc _
  have hz0 : W0.heap.size = w.heap.size + 2 := by rw [← hW0]; simp
  have HIC : Hid ((imgCells v x).length = 4) := show _ = _ from rfl
  have HI3 : Hid (∀ w', Keep [w.heap.size + 1] W0 w' → w'.cell? ⟨w.heap.size, 3, none⟩ = some (.slice v.ea x.edges.length v.ec)) := fun w' hk => img_c3 (b0.keep hk (by simp))
  have HIr : Hid (∀ w', Keep [] W0 w' → CellsAt w' w.heap.size 0 (imgCells v x)) := fun w' k => (b0.keep0 k).cellsAt
  have HG := Lib.hid (great_any v x W0 (h.keep0 K0))
  have HA := fun w' (k : Keep [] W0 w') => Lib.hid (admit_any v x w' (hTb.keep0 (K0.then k)) (h.keep0 (K0.then k)))
  have HB1 := Lib.hid b1
  have HK0 := Lib.hid K0
  have HZ0 := Lib.hid hz0
  have HW := Lib.hid hW0
  rw [(adm_ok ha).2.2] at HA
  rw [hg] at HG
  have HL := Lib.hid (fullCrt_len x)
  clear hTb h K0 hz0 hW0 b0 b1 hg ha
  generalize imgCells v x = il at *
  go_enter Tryd.func19, Tryd.ntmps19
  go_wp2_with (first | rw [HW.out] | (refine wpList_load_agg rfl 26 (.tmp 1) rfl rfl (cs := il) (by rw [HIC.out]; exact agg_image) (HIr.out _ (Keep.refl _ _)) ?_))
  refine HG.out.mono ?_
  rintro e w1 ⟨rfl, k1⟩
  have HA1 := HA w1 k1
  have HI1 := Lib.hid (HIr.out w1 k1)
  have HK1 := Lib.hid k1
  clear k1 HIr HA HG
  go_wp2_with (refine wpList_load_agg rfl 26 (.tmp 1) rfl rfl (cs := il) (by rw [HIC.out]; exact agg_image) HI1.out ?_)
  refine HA1.out.mono ?_
  rintro e w2 ⟨vc, rfl, hc2, k2⟩
  have HCC : Hid ((crtCells vc (fullCrt x)).length = 2) := show _ = _ from rfl
  have hone : Hid (∀ u ∈ crtCells vc (fullCrt x), u.oneCell' = true) := by
    intro u hu
    simp [crtCells] at hu
    rcases hu with rfl | rfl <;> rfl
  have HE1 : Hid ((crtCells vc (fullCrt x))[1]? = some (.slice vc.ea (fullCrt x).edges.length vc.ec)) := show _ = _ from rfl
  have HC2 := Lib.hid hc2.toE
  have HK2 := Lib.hid (HK1.out.then k2)
  clear hc2 k2
  simp only
  generalize hcl : crtCells vc (fullCrt x) = cl at *
  go_wp2_with (refine stop_store 30 (.tmp 4) (.tmp 13) rfl ?_)
  constructor
  refine wpList_store_all rfl 30 (.tmp 4) (.tmp 13) rfl rfl rfl (vs := cl) (by rw [HCC.out]; exact agg_cert.2) (Blk.new _ _ _) hone.out ?_ ?_
  · rw [HCC.out]; rfl
  intro w4 d4 k4
  have k24 : Keep [] w2 w4 := ((Keep.refl [] w2).alloc _).trans k4 (fun y hy hlt => by simp at hy; omega)
  have K4 := HK2.out.then k24
  have hg4 : w.heap.size + 1 < w2.heap.size := by have := HK2.out.size; have := HZ0.out; omega
  have HC4 := Lib.hid (HC2.out.keep0 k24)
  have HB4 := Lib.hid (HB1.out.keep0 K4)
  have HK4 := Lib.hid K4
  have hA0 : ∀ w', Keep [w.heap.size + 1] w4 w' → CellsAt w' w2.heap.size 0 cl := fun w' k => (d4.keep k (by simp; omega)).cellsAt
  have hF : ∀ w', Keep [w.heap.size + 1] w4 w' → w'.cell? ⟨w.heap.size, 3, none⟩ = some (.slice v.ea x.edges.length v.ec) ∧ w'.cell? ⟨w2.heap.size, 1, none⟩ = some (.slice vc.ea (fullCrt x).edges.length vc.ec) := fun w' k => ⟨HI3.out w' ((K4.mono (by simp)).trans k (by simp)), (d4.keep k (by simp; omega)).at_ HE1.out⟩
  clear d4 k4 k24 K4
  go_wp2
  refine ap_begin 13 (Keep [w.heap.size + 1] w4) rfl (Keep.refl _ _).drew (fun hS hPan => ?_) (fun _ _ d _ _ h => by cases d <;> exact h)
  refine ap_agg 0 30 (.tmp 4) cl rfl (by kernel_rfl) (by kernel_rfl) (by kernel_rfl) (by kernel_rfl) (by rfl) hPan rfl rfl (by rw [HCC.out]; exact agg_cert) hA0 hS ?_
  (simp only [Act.put, List.setIfInBounds_toArray, List.set_cons_zero, List.set_cons_succ])
  (refine ap_val (v := ?_) 1 rfl (by kernel_rfl) (by kernel_rfl) (by kernel_rfl) (by kernel_rfl) (by rfl) hPan ?_ hS ?_; rotate_left; (intro w' hSw; go_simp; try with_reducible rfl); simp only [Act.put, List.setIfInBounds_toArray, List.set_cons_zero, List.set_cons_succ])
  (refine ap_val (v := ?_) 2 rfl (by kernel_rfl) (by kernel_rfl) (by kernel_rfl) (by kernel_rfl) (by rfl) hPan ?_ hS ?_; rotate_left; (intro w' hSw; go_simp; try with_reducible rfl); simp only [Act.put, List.setIfInBounds_toArray, List.set_cons_zero, List.set_cons_succ])
  (refine ap_val (v := ?_) 3 rfl (by kernel_rfl) (by kernel_rfl) (by kernel_rfl) (by kernel_rfl) (by rfl) hPan ?_ hS ?_; rotate_left; (intro w' hSw; go_simp; try with_reducible rfl); simp only [Act.put, List.setIfInBounds_toArray, List.set_cons_zero, List.set_cons_succ])
  rw [HL.out] at hF
  (refine ap_val (v := ?_) 4 rfl (by kernel_rfl) (by kernel_rfl) (by kernel_rfl) (by kernel_rfl) (by rfl) hPan ?_ hS ?_; rotate_left; (intro w' hSw; obtain ⟨f1,f2⟩ := hF w' hSw; go_simp; try with_reducible rfl); simp only [Act.put, List.setIfInBounds_toArray, List.set_cons_zero, List.set_cons_succ])
  (refine ap_val (v := ?_) 5 rfl (by kernel_rfl) (by kernel_rfl) (by kernel_rfl) (by kernel_rfl) (by rfl) hPan ?_ hS ?_; rotate_left; (intro w' hSw; obtain ⟨f1,f2⟩ := hF w' hSw; go_simp; try with_reducible rfl); simp only [Act.put, List.setIfInBounds_toArray, List.set_cons_zero, List.set_cons_succ])
  (refine ap_val (v := ?_) 6 rfl (by kernel_rfl) (by kernel_rfl) (by kernel_rfl) (by kernel_rfl) (by rfl) hPan ?_ hS ?_; rotate_left; (intro w' hSw; obtain ⟨f1,f2⟩ := hF w' hSw; go_simp; try with_reducible rfl); simp only [Act.put, List.setIfInBounds_toArray, List.set_cons_zero, List.set_cons_succ])
  (refine ap_val (v := ?_) 7 rfl (by kernel_rfl) (by kernel_rfl) (by kernel_rfl) (by kernel_rfl) (by rfl) hPan ?_ hS ?_; rotate_left; (intro w' hSw; obtain ⟨f1,f2⟩ := hF w' hSw; go_simp; try with_reducible rfl); simp only [Act.put, List.setIfInBounds_toArray, List.set_cons_zero, List.set_cons_succ])
  (refine ap_val (v := ?_) 8 rfl (by kernel_rfl) (by kernel_rfl) (by kernel_rfl) (by kernel_rfl) (by rfl) hPan ?_ hS ?_; rotate_left; (intro w' hSw; obtain ⟨f1,f2⟩ := hF w' hSw; go_simp; try with_reducible rfl); simp only [Act.put, List.setIfInBounds_toArray, List.set_cons_zero, List.set_cons_succ])
  (refine ap_val (v := ?_) 9 rfl (by kernel_rfl) (by kernel_rfl) (by kernel_rfl) (by kernel_rfl) (by rfl) hPan ?_ hS ?_; rotate_left; (intro w' hSw; obtain ⟨f1,f2⟩ := hF w' hSw; go_simp; try with_reducible rfl); simp only [Act.put, List.setIfInBounds_toArray, List.set_cons_zero, List.set_cons_succ])
  (refine ap_val (v := ?_) 10 rfl (by kernel_rfl) (by kernel_rfl) (by kernel_rfl) (by kernel_rfl) (by rfl) hPan ?_ hS ?_; rotate_left; (intro w' hSw; go_simp; try with_reducible rfl); simp only [Act.put, List.setIfInBounds_toArray, List.set_cons_zero, List.set_cons_succ])
  (refine ap_val (v := ?_) 11 rfl (by kernel_rfl) (by kernel_rfl) (by kernel_rfl) (by kernel_rfl) (by rfl) hPan ?_ hS ?_; rotate_left; (intro w' hSw; go_simp; try with_reducible rfl); simp only [Act.put, List.setIfInBounds_toArray, List.set_cons_zero, List.set_cons_succ])
  have HB5 := HB4.out.drew
  refine ap_one 12 (by kernel_rfl) ?_
  refine op_store_all (vs := cl) 12 rfl (by rfl) rfl rfl rfl (by rw [HCC.out]; exact agg_cert.2) HB5 hone.out (by rw [HCC.out]; rfl) ?_
  intro w6 d6 k6
  have S6 : Keep [w.heap.size + 1] w4 w6 := hS.trans k6 (by simp)
  refine ⟨fun _ => S6, ?_⟩
  (simp only [Act.put])
  refine ap_one 13 (by kernel_rfl) ?_
  refine op_run (v := .bool true) (w' := w6) 13 rfl (by rfl) (by go_simp) ?_
  refine ⟨fun h => (by cases h), ap_done (by kernel_rfl) ?_ _⟩
  (simp only [Act.put, List.setIfInBounds_toArray, List.set_cons_zero, List.set_cons_succ])
  have KE : Keep [] w w6 := (HK0.out.then HK4.out).trans S6 (fun y hy hlt => by simp at hy; omega)
  have KC : CrtE w6 vc (fullCrt x) := HC4.out.box HB4.out S6
  clear hS S6 hPan hA0 hF
  go_wp2
  refine bodyPost_ret (results_cell_tmp rfl _ rfl rfl d6 (by rw [HCC.out]; exact agg_cert)) rfl ?_
  exact ⟨vc, by rw [hcl]; rfl, KC, KE⟩
set_option maxRecDepth 100000 in
set_option maxHeartbeats 4000000 in
theorem known_no (v : ImgV) (x : Img) (w : World) (hTb : Tab w) (h : ImgAt w v x) (hn : greatImg x = true ∨ ¬ (admM x).2.2 = 0) :
    Calls Tryd.prog 19 #[.agg (imgCells v x).toArray] w fun e w' => ∃ cs : List Value, e = .returned (.tuple #[.agg cs.toArray, .bool false]) ∧ cs.length = 2 ∧ (∀ u ∈ cs, u.oneCell' = true) ∧ Keep [] w w' := by
  obtain ⟨W0, hW0⟩ : ∃ W0, (w.alloc (.cells (imgCells v x).toArray 26)).alloc (.cells #[.slice none 0 0, .slice none 0 0] 30) = W0 := ⟨_, rfl⟩
  have b0 : Blk W0 w.heap.size 26 (imgCells v x).toArray := by rw [← hW0]; exact (img_box w v x).alloc _
  have b1 : Blk W0 (w.heap.size + 1) 30 #[.slice none 0 0, .slice none 0 0] := by rw [← hW0]; exact Blk.new1 _ _ _ _
  have K0 : Keep [] w W0 := by rw [← hW0]; exact ((Keep.refl [] w).alloc _).alloc _
  have hz0 : W0.heap.size = w.heap.size + 2 := by rw [← hW0]; simp
  have HIC : Hid ((imgCells v x).length = 4) := show _ = _ from rfl
  have HI3 : Hid (∀ w', Keep [w.heap.size + 1] W0 w' → w'.cell? ⟨w.heap.size, 3, none⟩ = some (.slice v.ea x.edges.length v.ec)) := fun w' hk => img_c3 (b0.keep hk (by simp))
  have HIr : Hid (∀ w', Keep [] W0 w' → CellsAt w' w.heap.size 0 (imgCells v x)) := fun w' k => (b0.keep0 k).cellsAt
  have HG := Lib.hid (great_any v x W0 (h.keep0 K0))
  have HA := fun w' (k : Keep [] W0 w') => Lib.hid (admit_any v x w' (hTb.keep0 (K0.then k)) (h.keep0 (K0.then k)))
  have HB1 := Lib.hid b1
  have HK0 := Lib.hid K0
  have HZ0 := Lib.hid hz0
  have HW := Lib.hid hW0
  generalize hr : admM x = r at *
  obtain ⟨rc, r1, r2⟩ := r
  simp only at hn
  clear hTb h K0 hz0 hW0 b0 b1 hr
  generalize imgCells v x = il at *
  go_enter Tryd.func19, Tryd.ntmps19
  go_wp2_with (first | rw [HW.out] | (refine wpList_load_agg rfl 26 (.tmp 1) rfl rfl (cs := il) (by rw [HIC.out]; exact agg_image) (HIr.out _ (Keep.refl _ _)) ?_))
  refine HG.out.mono ?_
  rintro e w1 ⟨rfl, k1⟩
  cases hgr : greatImg x with
  | true =>
    clear HA HIr hn
    have HK1 := Lib.hid (HK0.out.then k1)
    have HB2 := Lib.hid (HB1.out.keep0 k1)
    have hzk := k1.size
    clear k1
    go_wp2_with (refine stop_store 30 (.tmp 2) (.tmp 9) rfl ?_)
    constructor
    refine wpList_store_all rfl 30 (.tmp 2) (.tmp 9) rfl rfl rfl (vs := [.slice none 0 0, .slice none 0 0]) agg_cert.2 HB2.out (by simp [Value.oneCell']) rfl ?_
    intro wz dz kz
    go_wp2
    refine bodyPost_ret (results_cell_tmp rfl _ rfl rfl dz agg_cert) rfl ?_
    exact ⟨[.slice none 0 0, .slice none 0 0], rfl, rfl, by simp [Value.oneCell'], HK1.out.trans kz (fun y hy hlt => by simp at hy; omega)⟩
  | false =>
    have hr2 : ¬ r2 = 0 := hn.resolve_left (by rw [hgr]; simp)
    have z0 : (r2 == 0) = false := by simp; exact hr2
    have z1 : decide (r2 = 0) = false := decide_eq_false hr2
    clear hn hr2
    have HA1 := HA w1 k1
    have HI1 := Lib.hid (HIr.out w1 k1)
    have HK1 := Lib.hid k1
    clear k1 HIr HA HG
    go_wp2_with (refine wpList_load_agg rfl 26 (.tmp 1) rfl rfl (cs := il) (by rw [HIC.out]; exact agg_image) HI1.out ?_)
    refine HA1.out.mono ?_
    rintro e w2 ⟨vc, rfl, hc2, k2⟩
    have HCC : Hid ((crtCells vc rc).length = 2) := show _ = _ from rfl
    have hone : Hid (∀ u ∈ crtCells vc rc, u.oneCell' = true) := by
      intro u hu
      simp [crtCells] at hu
      rcases hu with rfl | rfl <;> rfl
    have HE1 : Hid ((crtCells vc rc)[1]? = some (.slice vc.ea rc.edges.length vc.ec)) := show _ = _ from rfl
    have HC2 := Lib.hid hc2.toE
    have HK2 := Lib.hid (HK1.out.then k2)
    clear hc2 k2
    simp only
    generalize hcl : crtCells vc rc = cl at *
    go_wp2_with (refine stop_store 30 (.tmp 4) (.tmp 13) rfl ?_)
    constructor
    refine wpList_store_all rfl 30 (.tmp 4) (.tmp 13) rfl rfl rfl (vs := cl) (by rw [HCC.out]; exact agg_cert.2) (Blk.new _ _ _) hone.out ?_ ?_
    · rw [HCC.out]; rfl
    intro w4 d4 k4
    have k24 : Keep [] w2 w4 := ((Keep.refl [] w2).alloc _).trans k4 (fun y hy hlt => by simp at hy; omega)
    have K4 := HK2.out.then k24
    have hg4 : w.heap.size + 1 < w2.heap.size := by have := HK2.out.size; have := HZ0.out; omega
    have HC4 := Lib.hid (HC2.out.keep0 k24)
    have HB4 := Lib.hid (HB1.out.keep0 K4)
    have HK4 := Lib.hid K4
    have hA0 : ∀ w', Keep [w.heap.size + 1] w4 w' → CellsAt w' w2.heap.size 0 cl := fun w' k => (d4.keep k (by simp; omega)).cellsAt
    have hF : ∀ w', Keep [w.heap.size + 1] w4 w' → w'.cell? ⟨w.heap.size, 3, none⟩ = some (.slice v.ea x.edges.length v.ec) ∧ w'.cell? ⟨w2.heap.size, 1, none⟩ = some (.slice vc.ea rc.edges.length vc.ec) := fun w' k => ⟨HI3.out w' ((K4.mono (by simp)).trans k (by simp)), (d4.keep k (by simp; omega)).at_ HE1.out⟩
    clear d4 k4 k24 K4
    go_wp2
    refine ap_begin 13 (Keep [w.heap.size + 1] w4) rfl (Keep.refl _ _).drew (fun hS hPan => ?_) (fun _ _ d _ _ h => by cases d <;> exact h)
    refine ap_agg 0 30 (.tmp 4) cl rfl (by kernel_rfl) (by kernel_rfl) (by kernel_rfl) (by kernel_rfl) (by rfl) hPan rfl rfl (by rw [HCC.out]; exact agg_cert) hA0 hS ?_
    (simp only [Act.put, List.setIfInBounds_toArray, List.set_cons_zero, List.set_cons_succ])
    (refine ap_val (v := ?_) 1 rfl (by kernel_rfl) (by kernel_rfl) (by kernel_rfl) (by kernel_rfl) (by rfl) hPan ?_ hS ?_; rotate_left; (intro w' hSw; go_simp; try with_reducible rfl); simp only [Act.put, List.setIfInBounds_toArray, List.set_cons_zero, List.set_cons_succ])
    (refine ap_val (v := ?_) 2 rfl (by kernel_rfl) (by kernel_rfl) (by kernel_rfl) (by kernel_rfl) (by rfl) hPan ?_ hS ?_; rotate_left; (intro w' hSw; go_simp; try with_reducible rfl); simp only [Act.put, List.setIfInBounds_toArray, List.set_cons_zero, List.set_cons_succ])
    (refine ap_val (v := ?_) 3 rfl (by kernel_rfl) (by kernel_rfl) (by kernel_rfl) (by kernel_rfl) (by rfl) hPan ?_ hS ?_; rotate_left; (intro w' hSw; go_simp; try with_reducible rfl); simp only [Act.put, List.setIfInBounds_toArray, List.set_cons_zero, List.set_cons_succ])
    (refine ap_off 4 rfl (by kernel_rfl) (by kernel_rfl) (by kernel_rfl) (by kernel_rfl) (by rfl) hPan hS ?_; simp only [Act.put, List.setIfInBounds_toArray, List.set_cons_zero, List.set_cons_succ])
    (refine ap_off 5 rfl (by kernel_rfl) (by kernel_rfl) (by kernel_rfl) (by kernel_rfl) (by rfl) hPan hS ?_; simp only [Act.put, List.setIfInBounds_toArray, List.set_cons_zero, List.set_cons_succ])
    (refine ap_off 6 rfl (by kernel_rfl) (by kernel_rfl) (by kernel_rfl) (by kernel_rfl) (by rfl) hPan hS ?_; simp only [Act.put, List.setIfInBounds_toArray, List.set_cons_zero, List.set_cons_succ])
    (refine ap_off 7 rfl (by kernel_rfl) (by kernel_rfl) (by kernel_rfl) (by kernel_rfl) (by rfl) hPan hS ?_; simp only [Act.put, List.setIfInBounds_toArray, List.set_cons_zero, List.set_cons_succ])
    (refine ap_off 8 rfl (by kernel_rfl) (by kernel_rfl) (by kernel_rfl) (by kernel_rfl) (by rfl) hPan hS ?_; simp only [Act.put, List.setIfInBounds_toArray, List.set_cons_zero, List.set_cons_succ])
    (refine ap_off 9 rfl (by kernel_rfl) (by kernel_rfl) (by kernel_rfl) (by kernel_rfl) (by rfl) hPan hS ?_; simp only [Act.put, List.setIfInBounds_toArray, List.set_cons_zero, List.set_cons_succ])
    (refine ap_off 10 rfl (by kernel_rfl) (by kernel_rfl) (by kernel_rfl) (by kernel_rfl) (by rfl) hPan hS ?_; simp only [Act.put, List.setIfInBounds_toArray, List.set_cons_zero, List.set_cons_succ])
    (refine ap_val (v := ?_) 11 rfl (by kernel_rfl) (by kernel_rfl) (by kernel_rfl) (by kernel_rfl) (by rfl) hPan ?_ hS ?_; rotate_left; (intro w' hSw; go_simp; try with_reducible rfl); simp only [Act.put, List.setIfInBounds_toArray, List.set_cons_zero, List.set_cons_succ])
    have HB5 := HB4.out.drew
    refine ap_one 12 (by kernel_rfl) ?_
    refine op_store_all (vs := cl) 12 rfl (by rfl) rfl rfl rfl (by rw [HCC.out]; exact agg_cert.2) HB5 hone.out (by rw [HCC.out]; rfl) ?_
    intro w6 d6 k6
    have S6 : Keep [w.heap.size + 1] w4 w6 := hS.trans k6 (by simp)
    refine ⟨fun _ => S6, ?_⟩
    (simp only [Act.put])
    refine ap_one 13 (by kernel_rfl) ?_
    refine op_run (v := .bool false) (w' := w6) 13 rfl (by rfl) (by go_simp) ?_
    refine ⟨fun h => (by cases h), ap_done (by kernel_rfl) ?_ _⟩
    (simp only [Act.put, List.setIfInBounds_toArray, List.set_cons_zero, List.set_cons_succ])
    have KE : Keep [] w w6 := (HK0.out.then HK4.out).trans S6 (fun y hy hlt => by simp at hy; omega)
    clear hS S6 hPan hA0 hF
    go_wp2
    refine bodyPost_ret (results_cell_tmp rfl _ rfl rfl d6 (by rw [HCC.out]; exact agg_cert)) rfl ?_
    exact ⟨cl, rfl, HCC.out, hone.out, KE⟩
end Go.Proofs.YteocldlglklnjaaDoor

namespace Go.Proofs.YteocldlglklnjaaDoor
open Go.RowKit

def mostK (h : Nat → Int) : Nat → Int
  | 0 => 0
  | k + 1 => if h k < farR ∧ mostK h k < h k then h k else mostK h k
theorem mostK_le (h : Nat → Int) (z : Int) : ∀ k, (mostK h k ≤ z ↔ 0 ≤ z ∧ ∀ i, i < k → h i < farR → h i ≤ z)
  | 0 => by
    refine ⟨fun hz => ⟨hz, fun i hi => absurd hi (by omega)⟩, fun hz => hz.1⟩
  | k + 1 => by
    have ih := mostK_le h z k
    rw [mostK]
    split
    · rename_i hc
      constructor
      · intro hz
        refine ⟨by have := (ih.1 (by omega)).1; exact this, fun i hi hf => ?_⟩
        rcases Nat.lt_succ_iff_lt_or_eq.mp hi with h1 | rfl
        · exact (ih.1 (by omega)).2 i h1 hf
        · exact hz
      · rintro ⟨h0, h1⟩
        exact h1 k (by omega) hc.1
    · rename_i hc
      constructor
      · intro hz
        refine ⟨(ih.1 hz).1, fun i hi hf => ?_⟩
        rcases Nat.lt_succ_iff_lt_or_eq.mp hi with h1 | rfl
        · exact (ih.1 hz).2 i h1 hf
        · rcases Int.lt_or_le (mostK h i) (h i) with h2 | h2
          · exact absurd ⟨hf, h2⟩ hc
          · omega
      · rintro ⟨h0, h1⟩
        exact ih.2 ⟨h0, fun i hi hf => h1 i (by omega) hf⟩
theorem mostK_pos (h : Nat → Int) (k : Nat) : 0 ≤ mostK h k := ((mostK_le h (mostK h k) k).1 (Int.le_refl _)).1
theorem mostK_far (h : Nat → Int) : ∀ k, mostK h k ≤ farR
  | 0 => by rw [mostK]; unfold farR; omega
  | k + 1 => by
    have := mostK_far h k
    rw [mostK]
    split <;> omega
theorem mostF_le (es : List Eg) (s M : Nat) (z : Int) (L : List Nat) : (mostF es s M L ≤ z ↔ 0 ≤ z ∧ ∀ m ∈ L, HR es s M m ≤ z) := by
  unfold mostF
  suffices ∀ (L : List Nat) (y : Int), (L.foldl (fun z m => max z (HR es s M m)) y ≤ z ↔ y ≤ z ∧ ∀ m ∈ L, HR es s M m ≤ z) from this L 0
  intro L
  induction L with
  | nil => intro y; simp
  | cons a L ih =>
    intro y
    rw [List.foldl_cons, ih]
    simp only [List.mem_cons, forall_eq_or_imp]
    constructor
    · rintro ⟨h1, h2⟩
      exact ⟨by omega, by omega, h2⟩
    · rintro ⟨h1, h2, h3⟩
      exact ⟨by omega, h3⟩
theorem hr_gets {es : List Eg} {s M v : Nat} (h : EsOk es M) (hs : s < M) (hM : M ≤ 100) : (HR es s M v < farR ↔ Gets es s v) := by
  by_cases hv : v = s
  · subst hv
    rw [hr_start h hs hM]
    exact ⟨fun _ => ⟨_, .nil⟩, fun _ => by unfold farR; omega⟩
  · rcases (way_found h hs hM hv).2 with ⟨hg, hl, _⟩ | ⟨hg, he, _⟩
    · exact ⟨fun _ => hg, fun _ => hl⟩
    · exact ⟨fun hl => absurd hl (by omega), fun hg2 => absurd hg2 hg⟩
theorem most_same {es : List Eg} {s M r : Nat} (h : EsOk es M) (hs : s < M) (hM : M ≤ 8) (hr : ∀ a, a < 32 → (r.testBit a = true ↔ Gets es s a)) :
    mostF es s M (bitsL r) = mostK (HR es s M) M := by
  have hmem : ∀ m, m ∈ bitsL r → Gets es s m := fun m hm => by
    obtain ⟨h1, h2⟩ := bitsL_mem.1 hm
    exact (hr m h1).1 h2
  have hin : ∀ m, Gets es s m → m < M := fun m hg => by
    obtain ⟨p, hp⟩ := hg
    exact (way_in hs h.v hp).1
  apply Int.le_antisymm
  · rw [mostF_le]
    refine ⟨mostK_pos _ _, fun m hm => ?_⟩
    have hg := hmem m hm
    exact ((mostK_le (HR es s M) _ M).1 (Int.le_refl _)).2 m (hin m hg) ((hr_gets h hs (by omega)).2 hg)
  · rw [mostK_le]
    have h0 := (mostF_le es s M (mostF es s M (bitsL r)) (bitsL r)).1 (Int.le_refl _)
    refine ⟨h0.1, fun i hi hf => h0.2 i (bitsL_mem.2 ⟨by omega, (hr i (by omega)).2 ((hr_gets h hs (by omega)).1 hf)⟩)⟩
end Go.Proofs.YteocldlglklnjaaDoor
