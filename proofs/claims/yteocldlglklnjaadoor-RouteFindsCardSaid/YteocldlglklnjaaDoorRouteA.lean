/- What is told of an edge (cert.Cert's Edge; route's spans). Condition: a certificate of small numbers. How long it takes to each mode, and by which edge one comes (route's table). Condition: an image that may be, a certificate of small numbers. How long it takes to each mode, and by which edge one comes (route's table): the walk. Condition: an image that may be, a certificate of small numbers. -/
import Derived.Test.YteocldlglklnjaaDoorCertF
import Derived.Test.YteocldlglklnjaaDoorRouteP
namespace Go.Proofs.YteocldlglklnjaaDoor
open Go.RowKit
attribute [local go_sem] Oper.semAt_some

/-- A certificate's edges in memory. -/
structure CrtE (w : World) (v : CrtV) (c : Crt) : Prop where
  edges : Reads w 2 v.ea c.edges.length (c.edges.flatMap spnCells)
  le : c.edges.length ≤ 100
theorem CrtAt.toE {w : World} {v : CrtV} {c : Crt} (h : CrtAt w v c) : CrtE w v c := ⟨h.edges, h.le⟩
theorem CrtE.keep0 {w w' : World} {v : CrtV} {c : Crt} (h : CrtE w v c) (k : Keep [] w w') : CrtE w' v c := ⟨h.edges.keep0 k, h.le⟩
/-- A box of slices is none of its blocks. -/
theorem CrtE.box {w w' : World} {v : CrtV} {c : Crt} {g t : Nat} (h : CrtE w v c) (hb : Blk w g t #[.slice none 0 0, .slice none 0 0]) (k : Keep [g] w w') : CrtE w' v c := by
  refine ⟨⟨h.edges.1, fun h0 => ?_⟩, h.le⟩
  obtain ⟨b, o, e, hbw, hc⟩ := h.edges.2 h0
  have hne : b ∉ [g] := by
    intro hm
    obtain rfl : b = g := by simpa using hm
    have h1 : ∃ z, (c.edges.flatMap spnCells)[0]? = some (.int .i64 z) := by
      generalize c.edges = l at h0
      cases l with
      | nil => simp at h0
      | cons s l => exact ⟨s.1, by simp [spnCells]⟩
    obtain ⟨z, h1⟩ := h1
    have h2 := hc 0 _ h1
    rw [hb.cell] at h2
    rcases o with _ | _ | o
    · simp at h2
    · simp at h2
    · simp at h2
  exact ⟨b, o, e, Nat.lt_of_lt_of_le hbw k.size, fun j u hu => (k.cell (p := ⟨b, o + j, none⟩) hbw hne).trans (hc j u hu)⟩
def edgeB (c : Crt) : Prop := ∀ s ∈ c.edges, (0 ≤ s.1 ∧ s.1 ≤ 536870912) ∧ 0 ≤ s.2 ∧ s.2 ≤ 536870912
set_option maxRecDepth 100000 in
set_option maxHeartbeats 2000000 in
theorem cedge_any (vc : CrtV) (c : Crt) (k : Nat) (w : World) (hc : CrtE w vc c) (hk : k < c.edges.length) :
    Calls Tryd.prog 61 #[.agg (crtCells vc c).toArray, .int .i64 (k : Int)] w fun e w' => e = .returned (.tuple #[.agg #[.int .i64 c.edges[k].1, .int .i64 c.edges[k].2], .bool true]) ∧ Keep [] w w' := by
  have hle := hc.le
  obtain ⟨W0, hW0⟩ : ∃ W0, (w.alloc (.cells (crtCells vc c).toArray 30)).alloc (.cells #[.int .i64 0, .int .i64 0] 47) = W0 := ⟨_, rfl⟩
  have b0 : Blk W0 w.heap.size 30 (crtCells vc c).toArray := by rw [← hW0]; exact (Blk.new _ _ _).alloc _
  have b1 : Blk W0 (w.heap.size + 1) 47 #[.int .i64 0, .int .i64 0] := by rw [← hW0]; exact Blk.new1 _ _ _ _
  have K0 : Keep [] w W0 := by rw [← hW0]; exact ((Keep.refl [] w).alloc _).alloc _
  have c1 : W0.cell? ⟨w.heap.size, 1, none⟩ = some (.slice vc.ea c.edges.length vc.ec) := by rw [b0.cell]; rfl
  obtain ⟨b, o, hA, hbw, hrc⟩ := hc.edges.elems rfl (fun _ _ => rfl) (by omega)
  rw [hA] at c1
  have hq : CellsAt W0 b (o + k * 2) [.int .i64 c.edges[k].1, .int .i64 c.edges[k].2] := CellsAt.keep0 (hrc k hk) K0 hbw
  have HQ := Lib.hid hq
  have B1 := Lib.hid b1
  have HW := Lib.hid hW0
  have HK0 := Lib.hid K0
  have q0 : decide ((k : Int) < 0) = false := decide_eq_false (by omega)
  have q1 : decide ((c.edges.length : Int) ≤ (k : Int)) = false := decide_eq_false (by omega)
  have q1n : decide (c.edges.length ≤ k) = false := decide_eq_false (by omega)
  have p0 : (0 : Int) ≤ (k : Int) := by omega
  have p1 : (k : Int) < (c.edges.length : Int) := by omega
  clear hc hrc hq K0 hW0 b0 b1
  generalize c.edges[k].1 = s1 at *
  generalize c.edges[k].2 = s2 at *
  generalize (crtCells vc c).toArray = cl at *
  go_enter Tryd.func61, Tryd.ntmps61
  go_wp2_with (first
    | rw [HW.out]
    | (refine wpList_load_agg rfl 47 (.tmp 19) rfl rfl (cs := [.int .i64 s1, .int .i64 s2]) agg_span HQ.out ?_)
    | (refine stop_store 47 (.tmp 4) (.tmp 20) rfl ?_))
  constructor
  refine wpList_store_all rfl 47 (.tmp 4) (.tmp 20) rfl rfl rfl (vs := [.int .i64 s1, .int .i64 s2]) agg_span.2 B1.out (by simp [Value.oneCell']) ?_ ?_
  · rfl
  intro wz dz kz
  go_wp2
  refine bodyPost_ret (results_cell_tmp rfl _ rfl rfl dz agg_span) rfl ?_
  exact ⟨rfl, HK0.out.trans kz (fun y hy hlt => by simp at hy; omega)⟩
set_option maxRecDepth 100000 in
set_option maxHeartbeats 2000000 in
theorem spans_any (vc : CrtV) (c : Crt) (k : Nat) (w : World) (hc : CrtE w vc c) (hk : k < c.edges.length) (hB : edgeB c) :
    Calls Tryd.prog 42 #[.agg (crtCells vc c).toArray, .int .i64 (k : Int)] w fun e w' => e = .returned (.tuple #[.int .i64 (c.edges[k].1 + c.edges[k].2), .int .i64 c.edges[k].1]) ∧ Keep [] w w' := by
  have hb := hB _ (List.getElem_mem hk)
  obtain ⟨W0, hW0⟩ : ∃ W0, w.alloc (.cells (crtCells vc c).toArray 30) = W0 := ⟨_, rfl⟩
  have b0 : Blk W0 w.heap.size 30 (crtCells vc c).toArray := by rw [← hW0]; exact Blk.new _ _ _
  have K0 : Keep [] w W0 := by rw [← hW0]; exact (Keep.refl [] w).alloc _
  have HCC : Hid ((crtCells vc c).length = 2) := show _ = _ from rfl
  have HCI := Lib.hid b0.cellsAt
  have HE := Lib.hid (cedge_any vc c k W0 (hc.keep0 K0) hk)
  have HW := Lib.hid hW0
  have HK0 := Lib.hid K0
  clear hc K0 hW0 b0 hB
  generalize c.edges[k].1 = s1 at *
  generalize c.edges[k].2 = s2 at *
  generalize crtCells vc c = cl at *
  have hw : IntKind.i64.wrap (s1 + s2) = s1 + s2 := IntWalk.i64_in _ (by omega)
  go_enter Tryd.func42, Tryd.ntmps42
  go_wp2_with (first
    | rw [HW.out]
    | (refine wpList_load_agg rfl 30 (.tmp 2) rfl rfl (cs := cl) (by rw [HCC.out]; exact agg_cert) HCI.out ?_))
  refine HE.out.mono ?_
  rintro e w1 ⟨rfl, k1⟩
  have HK1 := Lib.hid (HK0.out.then k1)
  clear k1 HE HCI
  go_wp2_with (refine stop_store 47 (.tmp 6) (.tmp 12) rfl ?_)
  constructor
  refine wpList_store_all rfl 47 (.tmp 6) (.tmp 12) rfl rfl rfl (vs := [.int .i64 s1, .int .i64 s2]) agg_span.2 (Blk.new _ _ _) (by simp [Value.oneCell']) ?_ ?_
  · rfl
  intro w2 d2 k2
  have hF : ∀ w', Keep [] w2 w' → w'.cell? ⟨w1.heap.size, 0, none⟩ = some (.int .i64 s1) ∧ w'.cell? ⟨w1.heap.size, 1, none⟩ = some (.int .i64 s2) := fun w' hk' => by
    have e0 := (d2.keep0 hk').cell 0
    have e1 := (d2.keep0 hk').cell 1
    simp at e0 e1
    exact ⟨e0, e1⟩
  have HK2 := Lib.hid (HK1.out.then (((Keep.refl [] w1).alloc _).trans k2 (fun y hy hlt => by simp at hy; omega)))
  clear k2 d2
  go_wp2
  refine wp_region_flow (Keep [] w2) rfl (by kernel_rfl) (Keep.refl _ _).drew ?_
  repeat (refine fl_val (v := ?_) (by rfl) ?_ ?_; rotate_left; (intro w' hS; obtain ⟨f1,f2⟩ := hF w' hS; go_simp; with_reducible rfl); simp only [Act.put, List.setIfInBounds_toArray, List.set_cons_zero, List.set_cons_succ])
  refine fl_nil ?_
  intro w4 hS
  have HS := Lib.hid (HK2.out.then hS)
  clear hS hF
  go_wp2
  go_ret2
  exact ⟨rfl, HS.out⟩
end Go.Proofs.YteocldlglklnjaaDoor

namespace Go.Proofs.YteocldlglklnjaaDoor
open Go.RowKit
attribute [local go_sem] Oper.semAt_some

/-! Rows of numbers by a function. -/
def tickL (t : Nat → Int) (M : Nat) : List Value := (List.range M).map (fun i => .int .i64 (t i))
theorem tickL_len (t : Nat → Int) (M : Nat) : (tickL t M).length = M := by simp [tickL]
theorem tickL_at (t : Nat → Int) {M i : Nat} (h : i < M) : (tickL t M)[i]? = some (.int .i64 (t i)) := by
  unfold tickL
  rw [List.getElem?_map, List.getElem?_range h]; rfl
theorem tickL_congr {t u : Nat → Int} {M : Nat} (h : ∀ i, i < M → t i = u i) : tickL t M = tickL u M := by
  unfold tickL
  exact List.map_congr_left (fun i hi => by rw [h i (List.mem_range.1 hi)])
theorem tickL_set (t : Nat → Int) (M v : Nat) (z : Int) : (tickL t M).toArray.setIfInBounds v (.int .i64 z) = (tickL (upd t v z) M).toArray := by
  rw [List.setIfInBounds_toArray]
  congr 1
  apply List.ext_getElem?
  intro i
  rw [List.getElem?_set, tickL_len]
  rcases Nat.lt_or_ge i M with hi | hi
  · rw [tickL_at _ hi, tickL_at _ hi]
    by_cases e : v = i
    · subst e; rw [if_pos rfl, if_pos hi, upd_same]
    · rw [if_neg e, upd_ne _ _ (fun h => e h.symm)]
  · rw [List.getElem?_eq_none (by rw [tickL_len]; exact hi), List.getElem?_eq_none (by rw [tickL_len]; exact hi)]
    split
    · rw [if_neg (by omega)]
    · rfl
theorem tickL_rep (M : Nat) : (List.replicate M (.int .i64 0) : List Value) = tickL (fun _ => 0) M := by
  apply List.ext_getElem?
  intro i
  rcases Nat.lt_or_ge i M with hi | hi
  · rw [tickL_at _ hi, List.getElem?_replicate, if_pos hi]
  · rw [List.getElem?_eq_none (by rw [List.length_replicate]; exact hi), List.getElem?_eq_none (by rw [tickL_len]; exact hi)]
def byV (b : Option Nat) : Int := match b with | none => -1 | some j => (j : Int)
def byF (b : Nat → Option Nat) : Nat → Int := fun i => byV (b i)
theorem byF_upd (b : Nat → Option Nat) (v i : Nat) : byF (updB b v i) = upd (byF b) v (i : Int) := by
  funext a
  unfold byF
  by_cases h : a = v
  · subst h; rw [updB_same, upd_same]; rfl
  · rw [updB_ne _ _ h, upd_ne _ _ h]
/-- The edges, and how long they take. -/
def egs (x : Img) (c : Crt) : List Eg := List.zipWith (fun e s => ⟨e.frm.toNat, e.to.toNat, s.1 + s.2, s.1⟩) x.edges c.edges
theorem egs_len {x : Img} {c : Crt} (h : c.edges.length = x.edges.length) : (egs x c).length = x.edges.length := by
  unfold egs
  rw [List.length_zipWith, h, Nat.min_self]
theorem egs_at {x : Img} {c : Crt} {i : Nat} (h1 : i < x.edges.length) (h2 : i < c.edges.length) : (egs x c)[i]? = some ⟨x.edges[i].frm.toNat, x.edges[i].to.toNat, c.edges[i].1 + c.edges[i].2, c.edges[i].1⟩ := by
  unfold egs
  rw [List.getElem?_zipWith, List.getElem?_eq_getElem h1, List.getElem?_eq_getElem h2]
theorem egs_ok {x : Img} {c : Crt} (hr : (chkImg x).2 = 0) (hB : edgeB c) : EsOk (egs x c) x.modes.length := by
  have hR := right_of hr
  have key : ∀ e ∈ egs x c, e.u < x.modes.length ∧ e.v < x.modes.length ∧ (0 ≤ e.n ∧ e.n ≤ 1073741824) ∧ 0 ≤ e.l ∧ e.l ≤ 1073741824 := fun e he => by
    obtain ⟨i, hi, rfl⟩ := List.getElem_of_mem he
    have hl : i < x.edges.length ∧ i < c.edges.length := by
      unfold egs at hi
      rw [List.length_zipWith] at hi
      omega
    have h1 := egs_at (x := x) (c := c) hl.1 hl.2
    rw [List.getElem?_eq_getElem hi] at h1
    injection h1 with h1
    rw [h1]
    obtain ⟨⟨a0, a1⟩, ⟨b0, b1⟩, _⟩ := hR.edgeIn i hl.1
    have hb := hB _ (List.getElem_mem hl.2)
    show x.edges[i].frm.toNat < _ ∧ x.edges[i].to.toNat < _ ∧ (0 ≤ c.edges[i].1 + c.edges[i].2 ∧ c.edges[i].1 + c.edges[i].2 ≤ _) ∧ 0 ≤ c.edges[i].1 ∧ c.edges[i].1 ≤ _
    omega
  exact ⟨fun e he => (key e he).1, fun e he => (key e he).2.1, fun e he => (key e he).2.2.1, fun e he => (key e he).2.2.2⟩
theorem round_take (es : List Eg) (t : Nat → Int) {i : Nat} {e : Eg} (h : es[i]? = some e) : round (es.take (i + 1)) t = rel (round (es.take i) t) e := by
  have hi := (List.getElem?_eq_some_iff.1 h).1
  have he := (List.getElem?_eq_some_iff.1 h).2
  unfold round
  rw [List.take_succ_eq_append_getElem hi, List.foldl_append, he]; rfl
theorem run_makeS {ev : Operand → Value} {l c : Operand} {dst : Option Tmp} {tyy : TypeId} {pos : String} {after : Array Edge} {gd : Option (Nat × Bool)} {n : Nat} (h : n ≤ 1000) (hl : ev l = .int .i64 (n : Int)) (hc : ev c = .int .i64 (n : Int)) (w : World) :
    (execOp ev ⟨dst, .makeSlice 40 l c, tyy, pos, after, gd⟩).run Tryd.prog w = .ok (.value (.slice (some ⟨w.heap.size, 0, none⟩) n n)) (w.alloc (.cells (List.replicate n (.int .i64 0)).toArray 3)) := by
  have hrun := run_make_row' (P := Tryd.prog) 40 3 (.int .i64 0) 8 Tryd.underlying40 (by kernel_rfl) rfl .i64 .i64 n (by omega) (by omega) w
  rw [madeCells_rep] at hrun
  simp [execOp, hl, hc, hrun, Result.andThen]
end Go.Proofs.YteocldlglklnjaaDoor

namespace Go.Proofs.YteocldlglklnjaaDoor
open Go.RowKit
attribute [local go_sem] Oper.semAt_some

def iniT (j : Nat) : Nat → Int := fun a => if a < j then 1099511627776 else 0
def iniB (j : Nat) : Nat → Int := fun a => if a < j then -1 else 0
theorem iniT_step (M j : Nat) : tickL (upd (iniT j) j 1099511627776) M = tickL (iniT (j + 1)) M := tickL_congr (fun i _ => by
  unfold iniT
  by_cases h : i = j
  · subst h; rw [upd_same, if_pos (by omega)]
  · rw [upd_ne _ _ h]
    by_cases h2 : i < j
    · rw [if_pos h2, if_pos (by omega)]
    · rw [if_neg h2, if_neg (by omega)])
theorem iniB_step (M j : Nat) : tickL (upd (iniB j) j (-1)) M = tickL (iniB (j + 1)) M := tickL_congr (fun i _ => by
  unfold iniB
  by_cases h : i = j
  · subst h; rw [upd_same, if_pos (by omega)]
  · rw [upd_ne _ _ h]
    by_cases h2 : i < j
    · rw [if_pos h2, if_pos (by omega)]
    · rw [if_neg h2, if_neg (by omega)])
theorem iniT_zero (M : Nat) : tickL (fun _ => 0) M = tickL (iniT 0) M := tickL_congr (fun i _ => by unfold iniT; rw [if_neg (by omega)])
theorem iniB_zero (M : Nat) : tickL (fun _ => 0) M = tickL (iniB 0) M := tickL_congr (fun i _ => by unfold iniB; rw [if_neg (by omega)])
theorem iniT_all (M s : Nat) : tickL (upd (iniT M) s 0) M = tickL (t0R s) M := tickL_congr (fun i hi => by
  unfold t0R
  by_cases h : i = s
  · subst h; rw [upd_same, upd_same]
  · rw [upd_ne _ _ h, upd_ne _ _ h]
    unfold iniT farR
    rw [if_pos hi])
theorem iniB_all (M : Nat) : tickL (iniB M) M = tickL (byF b0R) M := tickL_congr (fun i hi => by
  unfold iniB byF b0R byV
  rw [if_pos hi])
/-- Two rows of numbers in blocks of their own. -/
structure TabAt (w : World) (gT gB : Nat) (T : Nat → Int) (B : Nat → Option Nat) (M : Nat) : Prop where
  t : Blk w gT 3 (tickL T M).toArray
  b : Blk w gB 3 (tickL (byF B) M).toArray
def RetTab (w : World) (es : List Eg) (s M : Nat) (e : Ending) (w' : World) : Prop :=
  ∃ gT gB B, e = .returned (.tuple #[.slice (some ⟨gT, 0, none⟩) M M, .slice (some ⟨gB, 0, none⟩) M M]) ∧ TabAt w' gT gB (DR es s M) B M ∧ ByOk es s farR (DR es s M, B) ∧ Keep [] w w'
set_option maxRecDepth 100000 in
set_option maxHeartbeats 8000000 in
theorem table_any (v : ImgV) (x : Img) (vc : CrtV) (c : Crt) (s : Nat) (w : World) (h : ImgAt w v x) (hc : CrtE w vc c) (hr : (chkImg x).2 = 0) (hl : c.edges.length = x.edges.length) (hB : edgeB c) (hs : s < x.modes.length) :
    Calls Tryd.prog 41 #[.agg (imgCells v x).toArray, .agg (crtCells vc c).toArray, .int .i64 (s : Int)] w (RetTab w (egs x c) s x.modes.length) := by
  have hR := right_of hr
  have hM8 := hR.nm.2
  have hE24 := hR.ne
  have hok := egs_ok hr hB
  have hel := egs_len hl
  obtain ⟨W0, hW0⟩ : ∃ W0, (w.alloc (.cells (imgCells v x).toArray 26)).alloc (.cells (crtCells vc c).toArray 30) = W0 := ⟨_, rfl⟩
  have b0 : Blk W0 w.heap.size 26 (imgCells v x).toArray := by rw [← hW0]; exact (img_box w v x).alloc _
  have b1 : Blk W0 (w.heap.size + 1) 30 (crtCells vc c).toArray := by rw [← hW0]; exact Blk.new1 _ _ _ _
  have K0 : Keep [] w W0 := by rw [← hW0]; exact ((Keep.refl [] w).alloc _).alloc _
  have hz0 : W0.heap.size = w.heap.size + 2 := by rw [← hW0]; simp
  have HCC : Hid ((crtCells vc c).length = 2) := show _ = _ from rfl
  have HCr : Hid (∀ w', Keep [] W0 w' → CellsAt w' (w.heap.size + 1) 0 (crtCells vc c)) := fun w' k => (b1.keep0 k).cellsAt
  have HI : Hid (∀ w', Keep [] W0 w' → w'.cell? ⟨w.heap.size, 2, none⟩ = some (.slice v.ma x.modes.length v.mc) ∧ w'.cell? ⟨w.heap.size, 3, none⟩ = some (.slice v.ea x.edges.length v.ec)) := fun w' hk => ⟨img_c2 (b0.keep0 hk), img_c3 (b0.keep0 hk)⟩
  have HSp := fun (i : Nat) (hi : i < c.edges.length) w' (k : Keep [] W0 w') => Lib.hid (spans_any vc c i w' (hc.keep0 (K0.then k)) hi hB)
  have hlx := h.le
  unfold maxLen at hlx
  have HEd : Hid (∀ i, (hi : i < x.edges.length) → ∃ b o, v.ea = some ⟨b, o, none⟩ ∧ ∀ w', Keep [] W0 w' → CellsAt w' b (o + i * 23) (edgCells x.edges[i])) := fun i hi => by
    obtain ⟨b, o, hA, hbw, hcs⟩ := h.edge (by omega)
    exact ⟨b, o, hA, fun w' k => (hcs i hi).keep0 (K0.then k) hbw⟩
  have HELn : Hid (∀ i, (hi : i < x.edges.length) → (edgCells x.edges[i]).length = 23) := fun i hi => edgCells_len (h.ok.offs _ (List.getElem_mem hi)) (h.ok.mp _ (List.getElem_mem hi))
  have HRng : Hid (∀ i, (hi : i < x.edges.length) → (0 ≤ x.edges[i].frm ∧ x.edges[i].frm < x.modes.length) ∧ 0 ≤ x.edges[i].to ∧ x.edges[i].to < x.modes.length) := fun i hi => ⟨(hR.edgeIn i hi).1, (hR.edgeIn i hi).2.1⟩
  have HAt : Hid (∀ i, (hi : i < x.edges.length) → (hi2 : i < c.edges.length) → (egs x c)[i]? = some ⟨x.edges[i].frm.toNat, x.edges[i].to.toNat, c.edges[i].1 + c.edges[i].2, c.edges[i].1⟩) := fun i h1 h2 => egs_at h1 h2
  have HBd : Hid (∀ i, (hi : i < c.edges.length) → (0 ≤ c.edges[i].1 ∧ c.edges[i].1 ≤ 536870912) ∧ 0 ≤ c.edges[i].2 ∧ c.edges[i].2 ≤ 536870912) := fun i hi => hB _ (List.getElem_mem hi)
  have HOK := Lib.hid hok
  have HEL := Lib.hid hel
  have HL := Lib.hid hl
  have HM8 := Lib.hid hM8
  have HE24 := Lib.hid hE24
  have HK0 := Lib.hid K0
  have HW := Lib.hid hW0
  have HS := Lib.hid hs
  have HZ0 := Lib.hid hz0
  obtain ⟨c2, _⟩ := HI.out W0 (Keep.refl _ _)
  have hIF : ∀ w', Keep [] W0 w' → w'.cell? ⟨w.heap.size, 2, none⟩ = some (.slice v.ma x.modes.length v.mc) ∧ w'.cell? ⟨w.heap.size, 3, none⟩ = some (.slice v.ea x.edges.length v.ec) := HI.out
  clear h hc hr hl hB hR hok hel K0 hW0 b0 b1 hlx hM8 hE24 hs hz0 c2
  generalize hes : egs x c = es at *
  have HES := Lib.hid hes
  clear hes
  generalize imgCells v x = il at *
  generalize crtCells vc c = cl at *
  go_enter Tryd.func41, Tryd.ntmps41
  go_wp2_with (rw [HW.out])
  refine ap_begin 9 (Keep [] W0) rfl (Keep.refl _ _).drew (fun hS hPan => ?_) (fun _ _ d _ _ h => by cases d <;> exact h)
  (refine ap_val (v := ?_) 0 rfl (by kernel_rfl) (by kernel_rfl) (by kernel_rfl) (by kernel_rfl) (by rfl) hPan ?_ hS ?_; rotate_left; (intro w' hSw; go_simp; try with_reducible rfl); simp only [Act.put, List.setIfInBounds_toArray, List.set_cons_zero, List.set_cons_succ])
  (refine ap_val (v := ?_) 1 rfl (by kernel_rfl) (by kernel_rfl) (by kernel_rfl) (by kernel_rfl) (by rfl) hPan ?_ hS ?_; rotate_left; (intro w' hSw; obtain ⟨f1,f2⟩ := hIF w' hSw; go_simp; try with_reducible rfl); simp only [Act.put, List.setIfInBounds_toArray, List.set_cons_zero, List.set_cons_succ])
  (refine ap_val (v := ?_) 2 rfl (by kernel_rfl) (by kernel_rfl) (by kernel_rfl) (by kernel_rfl) (by rfl) hPan ?_ hS ?_; rotate_left; (intro w' hSw; go_simp; try with_reducible rfl); simp only [Act.put, List.setIfInBounds_toArray, List.set_cons_zero, List.set_cons_succ])
  (refine ap_val (v := ?_) 4 rfl (by kernel_rfl) (by kernel_rfl) (by kernel_rfl) (by kernel_rfl) (by rfl) hPan ?_ hS ?_; rotate_left; (intro w' hSw; go_simp; try with_reducible rfl); simp only [Act.put, List.setIfInBounds_toArray, List.set_cons_zero, List.set_cons_succ])
  (refine ap_val (v := ?_) 5 rfl (by kernel_rfl) (by kernel_rfl) (by kernel_rfl) (by kernel_rfl) (by rfl) hPan ?_ hS ?_; rotate_left; (intro w' hSw; obtain ⟨f1,f2⟩ := hIF w' hSw; go_simp; try with_reducible rfl); simp only [Act.put, List.setIfInBounds_toArray, List.set_cons_zero, List.set_cons_succ])
  (refine ap_val (v := ?_) 6 rfl (by kernel_rfl) (by kernel_rfl) (by kernel_rfl) (by kernel_rfl) (by rfl) hPan ?_ hS ?_; rotate_left; (intro w' hSw; go_simp; try with_reducible rfl); simp only [Act.put, List.setIfInBounds_toArray, List.set_cons_zero, List.set_cons_succ])
  generalize W0.drew = wd at *
  refine ap_two 3 7 (by kernel_rfl) ?_ ?_
  refine op_run (v := .slice (some ⟨wd.heap.size, 0, none⟩) x.modes.length x.modes.length) (w' := wd.alloc (.cells (List.replicate x.modes.length (.int .i64 0)).toArray 3)) 3 rfl (by rfl) (run_makeS (by have := HM8.out; omega) rfl rfl wd) ?_
  have DT : Blk (wd.alloc (.cells (List.replicate x.modes.length (.int .i64 0)).toArray 3)) wd.heap.size 3 (List.replicate x.modes.length (.int .i64 0)).toArray := Blk.new _ _ _
  have hS1 : Keep [] W0 (wd.alloc (.cells (List.replicate x.modes.length (.int .i64 0)).toArray 3)) := hS.alloc _
  have hzd := hS.size
  have hz1 : (wd.alloc (.cells (List.replicate x.modes.length (.int .i64 0)).toArray 3)).heap.size = wd.heap.size + 1 := by simp
  obtain ⟨gT, hg1⟩ : ∃ g, wd.heap.size = g := ⟨_, rfl⟩
  rw [hg1] at DT hz1 hzd
  generalize wd.alloc (.cells (List.replicate x.modes.length (.int .i64 0)).toArray 3) = we at *
  refine ⟨fun _ => hS1, ?_⟩
  rw [hg1]
  clear hg1
  replace hS := hS1
  (simp only [Act.put, List.setIfInBounds_toArray, List.set_cons_zero, List.set_cons_succ])
  (refine ap_val (v := ?_) 8 rfl (by kernel_rfl) (by kernel_rfl) (by kernel_rfl) (by kernel_rfl) (by rfl) hPan ?_ hS ?_; rotate_left; (intro w' hSw; go_simp; try with_reducible rfl); simp only [Act.put, List.setIfInBounds_toArray, List.set_cons_zero, List.set_cons_succ])
  refine ap_one 7 (by kernel_rfl) ?_
  refine op_run (v := .slice (some ⟨we.heap.size, 0, none⟩) x.modes.length x.modes.length) (w' := we.alloc (.cells (List.replicate x.modes.length (.int .i64 0)).toArray 3)) 7 rfl (by rfl) (run_makeS (by have := HM8.out; omega) rfl rfl we) ?_
  have DB : Blk (we.alloc (.cells (List.replicate x.modes.length (.int .i64 0)).toArray 3)) we.heap.size 3 (List.replicate x.modes.length (.int .i64 0)).toArray := Blk.new _ _ _
  replace DT := DT.alloc (.cells (List.replicate x.modes.length (.int .i64 0)).toArray 3)
  have hS2 := hS1.alloc (.cells (List.replicate x.modes.length (.int .i64 0)).toArray 3)
  obtain ⟨gB, hg2⟩ : ∃ g, we.heap.size = g := ⟨_, rfl⟩
  have hne : gT ≠ gB := by omega
  have hgT : W0.heap.size ≤ gT := by omega
  have hgB : W0.heap.size ≤ gB := by omega
  rw [hg2] at DB
  generalize we.alloc (.cells (List.replicate x.modes.length (.int .i64 0)).toArray 3) = wf at *
  refine ⟨fun _ => hS2, ?_⟩
  rw [hg2]
  clear hg2 hz1 hzd hS1
  replace hS := hS2
  clear hS2
  (simp only [Act.put, List.setIfInBounds_toArray, List.set_cons_zero, List.set_cons_succ])
  rotate_left
  refine op_run (v := .slice (some ⟨wd.heap.size, 0, none⟩) x.modes.length x.modes.length) (w' := wd.alloc (.cells (List.replicate x.modes.length (.int .i64 0)).toArray 3)) 7 rfl (by rfl) (run_makeS (by have := HM8.out; omega) rfl rfl wd) ?_
  have DB : Blk (wd.alloc (.cells (List.replicate x.modes.length (.int .i64 0)).toArray 3)) wd.heap.size 3 (List.replicate x.modes.length (.int .i64 0)).toArray := Blk.new _ _ _
  have hS1 : Keep [] W0 (wd.alloc (.cells (List.replicate x.modes.length (.int .i64 0)).toArray 3)) := hS.alloc _
  have hzd := hS.size
  have hz1 : (wd.alloc (.cells (List.replicate x.modes.length (.int .i64 0)).toArray 3)).heap.size = wd.heap.size + 1 := by simp
  obtain ⟨gB, hg1⟩ : ∃ g, wd.heap.size = g := ⟨_, rfl⟩
  rw [hg1] at DB hz1 hzd
  generalize wd.alloc (.cells (List.replicate x.modes.length (.int .i64 0)).toArray 3) = we at *
  refine ⟨fun _ => hS1, ?_⟩
  rw [hg1]
  clear hg1
  (simp only [Act.put, List.setIfInBounds_toArray, List.set_cons_zero, List.set_cons_succ])
  refine ap_one 3 (by kernel_rfl) ?_
  refine op_run (v := .slice (some ⟨we.heap.size, 0, none⟩) x.modes.length x.modes.length) (w' := we.alloc (.cells (List.replicate x.modes.length (.int .i64 0)).toArray 3)) 3 rfl (by rfl) (run_makeS (by have := HM8.out; omega) rfl rfl we) ?_
  have DT : Blk (we.alloc (.cells (List.replicate x.modes.length (.int .i64 0)).toArray 3)) we.heap.size 3 (List.replicate x.modes.length (.int .i64 0)).toArray := Blk.new _ _ _
  replace DB := DB.alloc (.cells (List.replicate x.modes.length (.int .i64 0)).toArray 3)
  have hS2 := hS1.alloc (.cells (List.replicate x.modes.length (.int .i64 0)).toArray 3)
  obtain ⟨gT, hg2⟩ : ∃ g, we.heap.size = g := ⟨_, rfl⟩
  have hne : gT ≠ gB := by omega
  have hgT : W0.heap.size ≤ gT := by omega
  have hgB : W0.heap.size ≤ gB := by omega
  rw [hg2] at DT
  generalize we.alloc (.cells (List.replicate x.modes.length (.int .i64 0)).toArray 3) = wf at *
  refine ⟨fun _ => hS2, ?_⟩
  rw [hg2]
  clear hg2 hz1 hzd hS1
  replace hS := hS2
  clear hS2
  (simp only [Act.put, List.setIfInBounds_toArray, List.set_cons_zero, List.set_cons_succ])
  (refine ap_val (v := ?_) 8 rfl (by kernel_rfl) (by kernel_rfl) (by kernel_rfl) (by kernel_rfl) (by rfl) hPan ?_ hS ?_; rotate_left; (intro w' hSw; go_simp; try with_reducible rfl); simp only [Act.put, List.setIfInBounds_toArray, List.set_cons_zero, List.set_cons_succ])
  rotate_left
  all_goals
    refine ap_one 9 (by kernel_rfl) ?_
    refine op_run (v := .slice (some ⟨gB, 0, none⟩) x.modes.length x.modes.length) (w' := wf) 9 rfl (by rfl) (by go_simp) ?_
    refine ⟨fun _ => hS, ap_done (by kernel_rfl) ?_ _⟩
    (simp only [Act.put, List.setIfInBounds_toArray, List.set_cons_zero, List.set_cons_succ])
    rw [tickL_rep, iniT_zero] at DT
    rw [tickL_rep, iniB_zero] at DB
    have HDT := Lib.hid DT
    have HDB := Lib.hid DB
    have HKF := Lib.hid hS
    have HNE := Lib.hid hne
    have HGG := Lib.hid (And.intro hgT hgB)
    clear DT DB hS hPan hne hgT hgB hIF
    go_wp2
    go_loopw [26] (fun vi wr => ∃ j : Nat, j ≤ x.modes.length ∧ vi = .int .i64 (j : Int) ∧ Blk wr gT 3 (tickL (iniT j) x.modes.length).toArray ∧ Blk wr gB 3 (tickL (iniB j) x.modes.length).toArray ∧ Keep [] W0 wr) (fun vi _ => x.modes.length - (intOf vi).toNat)
    case atStart => exact ⟨0, Nat.zero_le _, rfl, HDT.out, HDB.out, HKF.out⟩
    case round =>
      obtain ⟨j, hj, rfl, hT, hBb, hK⟩ := hrel
      have hM8 := HM8.out
      have hgg := HGG.out
      have hne := HNE.out
      by_cases hlt : j < x.modes.length
      · have p0 : (0 : Int) ≤ (j : Int) := by omega
        have p1 : (j : Int) < (x.modes.length : Int) := by omega
        have p2 : decide ((j : Int) < (x.modes.length : Int)) = true := decide_eq_true p1
        have cT := hT.at_ (tickL_at (iniT j) hlt)
        have fT := hT.frozen j
        have hT2 := hT.set_ j (.int .i64 1099511627776)
        rw [tickL_set, iniT_step] at hT2
        have hB2 := hBb.keep (keep_set wr gT j (.int .i64 1099511627776)) (by simp; omega)
        have K2 : Keep [] W0 (wr.setCell ⟨gT, j, none⟩ (.int .i64 1099511627776)) := hK.trans (keep_set wr gT j _) (fun y hy hlt => by simp at hy; omega)
        obtain ⟨w2, hw2⟩ : ∃ w2, wr.setCell ⟨gT, j, none⟩ (.int .i64 1099511627776) = w2 := ⟨_, rfl⟩
        rw [hw2] at hT2 hB2 K2
        have cB := hB2.at_ (tickL_at (iniB j) hlt)
        have fB := hB2.frozen j
        have hB3 := hB2.set_ j (.int .i64 (-1))
        rw [tickL_set, iniB_step] at hB3
        have hT3 := hT2.keep (keep_set w2 gB j (.int .i64 (-1))) (by simp; omega)
        have K3 : Keep [] W0 (w2.setCell ⟨gB, j, none⟩ (.int .i64 (-1))) := K2.trans (keep_set w2 gB j _) (fun y hy hlt => by simp at hy; omega)
        have HALL := Lib.hid (And.intro hT3 (And.intro hB3 K3))
        have HW2 := Lib.hid hw2
        clear hT hBb hK hT2 hB2 K2 hT3 hB3 K3 hw2
        go_wp2_with (rw [HW2.out])
        go_roundw
        case rel => exact ⟨j + 1, by omega, by go_num, HALL.out.1, HALL.out.2.1, HALL.out.2.2⟩
        case measure => simp [intOf] <;> omega
      · obtain rfl : j = x.modes.length := by omega
        have p2 : decide ((x.modes.length : Int) < (x.modes.length : Int)) = false := by simp
        have hs := HS.out
        have q0 : (0 : Int) ≤ (s : Int) := by omega
        have q1 : (s : Int) < (x.modes.length : Int) := by omega
        have cT := hT.at_ (tickL_at (iniT x.modes.length) hs)
        have fT := hT.frozen s
        have hT2 := hT.set_ s (.int .i64 0)
        rw [tickL_set, iniT_all] at hT2
        rw [iniB_all] at hBb
        have hB2 := hBb.keep (keep_set wr gT s (.int .i64 0)) (by simp; omega)
        have K2 : Keep [] W0 (wr.setCell ⟨gT, s, none⟩ (.int .i64 0)) := hK.trans (keep_set wr gT s _) (fun y hy hlt => by simp at hy; omega)
        obtain ⟨w2, hw2⟩ : ∃ w2, wr.setCell ⟨gT, s, none⟩ (.int .i64 0) = w2 := ⟨_, rfl⟩
        rw [hw2] at hT2 hB2 K2
        obtain ⟨c2, c3⟩ := HI.out w2 K2
        have HALL := Lib.hid (And.intro hT2 (And.intro hB2 K2))
        have HW2 := Lib.hid hw2
        clear hT hBb hK hT2 hB2 K2 hw2 c3
        go_wp2_with (rw [HW2.out])
        go_loopw [42] (fun vi wr => ∃ (k : Nat) (B : Nat → Option Nat), k ≤ x.modes.length ∧ vi = .int .i64 (k : Int) ∧ Blk wr gT 3 (tickL (rounds es (t0R s) k) x.modes.length).toArray ∧ Blk wr gB 3 (tickL (byF B) x.modes.length).toArray ∧ ByOk es s farR (rounds es (t0R s) k, B) ∧ Keep [] W0 wr) (fun vi _ => x.modes.length - (intOf vi).toNat)
        case atStart => exact ⟨0, b0R, Nat.zero_le _, rfl, HALL.out.1, HALL.out.2.1, byOk_start es s, HALL.out.2.2⟩
        case round =>
          clear c2
          obtain ⟨k, B, hk, rfl, hT, hBb, hby, hK⟩ := hrel
          obtain ⟨_, c3⟩ := HI.out wr hK
          by_cases hlt2 : k < x.modes.length
          · have p0 : (0 : Int) ≤ (k : Int) := by omega
            have p1 : (k : Int) < (x.modes.length : Int) := by omega
            have p3 : decide ((k : Int) < (x.modes.length : Int)) = true := decide_eq_true p1
            have HST : Hid (rounds es (t0R s) (k + 1) = round es (rounds es (t0R s) k)) := rfl
            generalize rounds es (t0R s) k = T0 at *
            have HALL2 := Lib.hid (And.intro hT (And.intro hBb (And.intro hby hK)))
            clear hT hBb hby hK cT fT
            go_wp2
            go_loopw [47] (fun vi wr => ∃ (i : Nat) (B : Nat → Option Nat), i ≤ x.edges.length ∧ vi = .int .i64 (i : Int) ∧ Blk wr gT 3 (tickL (round (es.take i) T0) x.modes.length).toArray ∧ Blk wr gB 3 (tickL (byF B) x.modes.length).toArray ∧ ByOk es s farR (round (es.take i) T0, B) ∧ Keep [] W0 wr) (fun vi _ => x.edges.length - (intOf vi).toNat)
            case atStart => exact ⟨0, B, Nat.zero_le _, rfl, HALL2.out.1, HALL2.out.2.1, HALL2.out.2.2.1, HALL2.out.2.2.2⟩
            case round =>
              clear c3
              obtain ⟨i, B, hi, rfl, hT, hBb, hby, hK⟩ := hrel
              obtain ⟨_, c3⟩ := HI.out wr hK
              have hE24 := HE24.out
              have hll := HL.out
              by_cases hlt3 : i < x.edges.length
              · have hlt4 : i < c.edges.length := by omega
                obtain ⟨eb, eo, heA, hec⟩ := HEd.out i hlt3
                have hce := hec wr hK
                have hrg := HRng.out i hlt3
                have hat := HAt.out i hlt3 hlt4
                have hbd := HBd.out i hlt4
                have HSpi := HSp i hlt4
                have HL23 := Lib.hid (HELn.out i hlt3)
                have HEone : Hid (∀ u ∈ edgCells x.edges[i], u.oneCell' = true) := iv_one _
                have hg0 : Hid ((edgCells x.edges[i])[0]? = some (.int .i64 x.edges[i].frm)) := show _ = _ from rfl
                have hg1 : Hid ((edgCells x.edges[i])[1]? = some (.int .i64 x.edges[i].to)) := show _ = _ from rfl
                rw [heA] at c3 ⊢
                have p4 : (0 : Int) ≤ (i : Int) := by omega
                have p5 : (i : Int) < (x.edges.length : Int) := by omega
                have p6 : decide ((i : Int) < (x.edges.length : Int)) = true := decide_eq_true p5
                generalize edgCells x.edges[i] = ec at *
                generalize x.edges[i].frm = fr at *
                generalize x.edges[i].to = to_ at *
                generalize c.edges[i].1 = s1 at *
                generalize c.edges[i].2 = s2 at *
                obtain ⟨u, rfl⟩ : ∃ u : Nat, fr = (u : Int) := ⟨fr.toNat, by omega⟩
                obtain ⟨vv, rfl⟩ : ∃ vv : Nat, to_ = (vv : Int) := ⟨to_.toNat, by omega⟩
                rw [Int.toNat_natCast, Int.toNat_natCast] at hat
                have hu : u < x.modes.length := by omega
                have hv : vv < x.modes.length := by omega
                have hrt := round_take es T0 hat
                have hby2 := byOk_rel hby (fun e he => (HOK.out.n e he).1) hat
                have hTF := (hby.le u)
                have hT0 := hby.pos u
                have hcE := Lib.hid hce
                have HBY2 := Lib.hid hby2
                have HRT := Lib.hid hrt
                have hgl := hT.lt
                have HT := Lib.hid hT
                have HBb := Lib.hid hBb
                have HK := Lib.hid hK
                have HBY := Lib.hid hby
                unfold farR at hTF
                simp only at hTF hT0
                clear hec hce hat hby hby2 hrt hT hBb hK heA hrg
                generalize round (es.take i) T0 = T at *
                go_wp2_with (first
                  | (refine wpList_load_agg rfl 45 (.tmp 50) rfl rfl (cs := ec) (by rw [HL23.out]; exact agg_edge23) hcE.out ?_)
                  | (refine stop_store 45 (.tmp 12) (.tmp 51) rfl ?_))
                constructor
                refine wpList_store_all rfl 45 (.tmp 12) (.tmp 51) rfl rfl rfl (vs := ec) (by rw [HL23.out]; exact agg_edge23.2) (Blk.new _ _ _) HEone.out ?_ ?_
                · rw [HL23.out]; rfl
                intro w4 d4 k4
                have k34 : Keep [] wr w4 := ((Keep.refl [] wr).alloc _).trans k4 (fun y hy hlt => by simp at hy; omega)
                have HK4 := Lib.hid (HK.out.then k34)
                have HD4 := Lib.hid d4
                have HT4 := Lib.hid (HT.out.keep0 k34)
                have HB4 := Lib.hid (HBb.out.keep0 k34)
                have hcC := Lib.hid (HCr.out w4 HK4.out)
                have HSp4 := HSpi w4 HK4.out
                clear d4 k4 k34 hcE HT HBb HSpi c3
                go_wp2_with (refine wpList_load_agg rfl 30 (.tmp 4) rfl rfl (cs := cl) (by rw [HCC.out]; exact agg_cert) hcC.out ?_)
                refine HSp4.out.mono ?_
                rintro e w5 ⟨rfl, k5⟩
                have HK5 := Lib.hid (HK4.out.then k5)
                have D5 := HD4.out.keep0 k5
                have hT5 := HT4.out.keep0 k5
                have hB5 := HB4.out.keep0 k5
                have e0 := D5.at_ hg0.out
                have e1 := D5.at_ hg1.out
                have tu := hT5.at_ (tickL_at T hu)
                have tv := hT5.at_ (tickL_at T hv)
                have q2 : (0 : Int) ≤ (u : Int) := by omega
                have q3 : (u : Int) < (x.modes.length : Int) := by omega
                have q4 : (0 : Int) ≤ (vv : Int) := by omega
                have q5 : (vv : Int) < (x.modes.length : Int) := by omega
                have hwr : IntKind.i64.wrap (T u + (s1 + s2)) = T u + (s1 + s2) := IntWalk.i64_in _ (by omega)
                have HT5 := Lib.hid hT5
                have HB5 := Lib.hid hB5
                have HD5 := Lib.hid D5
                clear k5 HSp4 hcC HD4 HT4 HB4 D5 hT5 hB5
                generalize hnn : s1 + s2 = nn at *
                by_cases hcm : T u + nn < T vv
                · have z0 : decide (T u + nn < T vv) = true := decide_eq_true hcm
                  have HR1 : Hid (rel T ⟨u, vv, nn, s1⟩ = upd T vv (T u + nn)) := by show _ = _; unfold rel; rw [if_pos hcm]
                  have HR2 : Hid (relB (T, B) (i, ⟨u, vv, nn, s1⟩) = (upd T vv (T u + nn), updB B vv i)) := by show _ = _; unfold relB; rw [if_pos hcm]
                  have hFd : ∀ w', Keep [gT] w5 w' → w'.cell? ⟨wr.heap.size, 0, none⟩ = some (.int .i64 (u : Int)) ∧ w'.cell? ⟨wr.heap.size, 1, none⟩ = some (.int .i64 (vv : Int)) := fun w' hk' => ⟨(HD5.out.keep hk' (by simp; omega)).at_ hg0.out, (HD5.out.keep hk' (by simp; omega)).at_ hg1.out⟩
                  clear hcm
                  generalize hd : T u + nn = dd at *
                  go_wp2
                  refine ap_begin 11 (Keep [gT] w5) rfl (Keep.refl _ _).drew (fun hS hPan => ?_) (fun _ _ d _ _ h => by cases d <;> exact h)
                  (refine ap_val (v := ?_) 0 rfl (by kernel_rfl) (by kernel_rfl) (by kernel_rfl) (by kernel_rfl) (by rfl) hPan ?_ hS ?_; rotate_left; (intro w' hSw; go_simp; try with_reducible rfl); simp only [Act.put, List.setIfInBounds_toArray, List.set_cons_zero, List.set_cons_succ])
                  (refine ap_val (v := ?_) 1 rfl (by kernel_rfl) (by kernel_rfl) (by kernel_rfl) (by kernel_rfl) (by rfl) hPan ?_ hS ?_; rotate_left; (intro w' hSw; go_simp; try with_reducible rfl); simp only [Act.put, List.setIfInBounds_toArray, List.set_cons_zero, List.set_cons_succ])
                  (refine ap_val (v := ?_) 2 rfl (by kernel_rfl) (by kernel_rfl) (by kernel_rfl) (by kernel_rfl) (by rfl) hPan ?_ hS ?_; rotate_left; (intro w' hSw; obtain ⟨f1,f2⟩ := hFd w' hSw; go_simp; try with_reducible rfl); simp only [Act.put, List.setIfInBounds_toArray, List.set_cons_zero, List.set_cons_succ])
                  (refine ap_val (v := ?_) 3 rfl (by kernel_rfl) (by kernel_rfl) (by kernel_rfl) (by kernel_rfl) (by rfl) hPan ?_ hS ?_; rotate_left; (intro w' hSw; go_simp; try with_reducible rfl); simp only [Act.put, List.setIfInBounds_toArray, List.set_cons_zero, List.set_cons_succ])
                  (refine ap_val (v := ?_) 4 rfl (by kernel_rfl) (by kernel_rfl) (by kernel_rfl) (by kernel_rfl) (by rfl) hPan ?_ hS ?_; rotate_left; (intro w' hSw; go_simp; try with_reducible rfl); simp only [Act.put, List.setIfInBounds_toArray, List.set_cons_zero, List.set_cons_succ])
                  (refine ap_val (v := ?_) 5 rfl (by kernel_rfl) (by kernel_rfl) (by kernel_rfl) (by kernel_rfl) (by rfl) hPan ?_ hS ?_; rotate_left; (intro w' hSw; obtain ⟨f1,f2⟩ := hFd w' hSw; go_simp; try with_reducible rfl); simp only [Act.put, List.setIfInBounds_toArray, List.set_cons_zero, List.set_cons_succ])
                  (refine ap_val (v := ?_) 6 rfl (by kernel_rfl) (by kernel_rfl) (by kernel_rfl) (by kernel_rfl) (by rfl) hPan ?_ hS ?_; rotate_left; (intro w' hSw; go_simp; try with_reducible rfl); simp only [Act.put, List.setIfInBounds_toArray, List.set_cons_zero, List.set_cons_succ])
                  (refine ap_val (v := ?_) 7 rfl (by kernel_rfl) (by kernel_rfl) (by kernel_rfl) (by kernel_rfl) (by rfl) hPan ?_ hS ?_; rotate_left; (intro w' hSw; go_simp; try with_reducible rfl); simp only [Act.put, List.setIfInBounds_toArray, List.set_cons_zero, List.set_cons_succ])
                  (refine ap_val (v := ?_) 8 rfl (by kernel_rfl) (by kernel_rfl) (by kernel_rfl) (by kernel_rfl) (by rfl) hPan ?_ hS ?_; rotate_left; (intro w' hSw; go_simp; try with_reducible rfl); simp only [Act.put, List.setIfInBounds_toArray, List.set_cons_zero, List.set_cons_succ])
                  have hS0 : Keep [] w5 w5.drew := (Keep.refl [] w5).drew
                  generalize w5.drew = w6 at *
                  have hT6 := HT5.out.keep0 hS0
                  have hB6 := HB5.out.keep0 hS0
                  have hS7 : Keep [gT] w5 (w6.setCell ⟨gT, vv, none⟩ (.int .i64 dd)) := hS.setCell (by simp) _
                  refine ap_one 9 (by kernel_rfl) ?_
                  refine op_store1 (v := .int .i64 dd) 9 rfl (by rfl) rfl rfl rfl (by kernel_rfl) rfl rfl (hT6.at_ (tickL_at T hv)) (hT6.frozen vv) ?_
                  have hT7 := hT6.set_ vv (.int .i64 dd)
                  rw [tickL_set] at hT7
                  have hB7 := hB6.keep (keep_set w6 gT vv (.int .i64 dd)) (by simp; omega)
                  have K7 : Keep [] W0 (w6.setCell ⟨gT, vv, none⟩ (.int .i64 dd)) := (HK5.out.then hS0).trans (keep_set w6 gT vv _) (fun y hy hlt => by simp at hy; omega)
                  generalize w6.setCell ⟨gT, vv, none⟩ (.int .i64 dd) = w7 at *
                  refine ⟨fun _ => hS7, ?_⟩
                  (simp only [Act.put])
                  refine ap_one 10 (by kernel_rfl) ?_
                  refine op_run (v := .pointer (some ⟨gB, vv, none⟩)) (w' := w7) 10 rfl (by rfl) (by go_simp) ?_
                  refine ⟨fun _ => hS7, ?_⟩
                  (simp only [Act.put, List.setIfInBounds_toArray, List.set_cons_zero, List.set_cons_succ])
                  refine ap_one 11 (by kernel_rfl) ?_
                  refine op_store1 (v := .int .i64 (i : Int)) 11 rfl (by rfl) rfl rfl rfl (by kernel_rfl) rfl rfl (hB7.at_ (tickL_at (byF B) hv)) (hB7.frozen vv) ?_
                  refine ⟨fun h => (by cases h), ap_done (by kernel_rfl) ?_ _⟩
                  (simp only [Act.put])
                  have hB8 := hB7.set_ vv (.int .i64 (i : Int))
                  rw [tickL_set, ← byF_upd] at hB8
                  have hT8 := hT7.keep (keep_set w7 gB vv (.int .i64 (i : Int))) (by simp; omega)
                  have K8 : Keep [] W0 (w7.setCell ⟨gB, vv, none⟩ (.int .i64 (i : Int))) := K7.trans (keep_set w7 gB vv _) (fun y hy hlt => by simp at hy; omega)
                  have HA8 := Lib.hid (And.intro hT8 (And.intro hB8 K8))
                  clear hS hS0 hS7 hPan hT6 hB6 hT7 hB7 hT8 hB8 K7 K8 tv tu e0 e1
                  go_wp2
                  go_roundw
                  case rel => exact ⟨i + 1, updB B vv i, by omega, by go_num, by rw [HRT.out, HR1.out]; exact HA8.out.1, HA8.out.2.1, by rw [HRT.out, HR1.out, ← HR2.out]; exact HBY2.out, HA8.out.2.2⟩
                  case measure => simp [intOf] <;> omega
                · have z0 : decide (T u + nn < T vv) = false := decide_eq_false hcm
                  have HR1 : Hid (rel T ⟨u, vv, nn, s1⟩ = T) := by show _ = _; unfold rel; rw [if_neg hcm]
                  have HR2 : Hid (relB (T, B) (i, ⟨u, vv, nn, s1⟩) = (T, B)) := by show _ = _; unfold relB; rw [if_neg hcm]
                  clear hcm
                  go_wp2
                  go_roundw
                  case rel => exact ⟨i + 1, B, by omega, by go_num, by rw [HRT.out, HR1.out]; exact HT5.out, HB5.out, by rw [HRT.out, HR1.out, ← HR2.out]; exact HBY2.out, HK5.out⟩
                  case measure => simp [intOf] <;> omega
              · obtain rfl : i = x.edges.length := by omega
                have p6 : decide ((x.edges.length : Int) < (x.edges.length : Int)) = false := by simp
                have htk : es.take x.edges.length = es := List.take_of_length_le (by rw [HEL.out]; exact Nat.le_refl _)
                rw [htk] at hT hby
                have HA := Lib.hid (And.intro hT (And.intro hBb (And.intro hby hK)))
                clear hT hBb hby hK htk
                go_wp2
                go_roundw
                case rel => exact ⟨k + 1, B, by omega, by go_num, by rw [HST.out]; exact HA.out.1, HA.out.2.1, by rw [HST.out]; exact HA.out.2.2.1, HA.out.2.2.2⟩
                case measure => simp [intOf] <;> omega
          · obtain rfl : k = x.modes.length := by omega
            have p3 : decide ((x.modes.length : Int) < (x.modes.length : Int)) = false := by simp
            have HA := Lib.hid (And.intro hT (And.intro hBb (And.intro hby hK)))
            clear hT hBb hby hK
            go_wp2
            go_ret2
            exact ⟨gT, gB, B, rfl, ⟨HA.out.1, HA.out.2.1⟩, HA.out.2.2.1, HK0.out.then HA.out.2.2.2⟩
end Go.Proofs.YteocldlglklnjaaDoor
