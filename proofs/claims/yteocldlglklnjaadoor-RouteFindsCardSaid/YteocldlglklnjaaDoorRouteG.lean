/- Does a way lead there (route's Right)? Condition: an image that may be, a certificate of small numbers, a way that does. How long it takes at the least till each mode is there, by the law (least). Condition: an image that may be, a certificate of small numbers. -/
import Derived.Test.YteocldlglklnjaaDoorRouteD
namespace Go.Proofs.YteocldlglklnjaaDoor
open Go.RowKit
attribute [local go_sem] Oper.semAt_some

theorem leads_cons {es : List Eg} {a j : Nat} {z : Int} {l : List Nat} {r : Nat × Int} (h : leads es a z (j :: l) = some r) : ∃ e, es[j]? = some e ∧ e.u = a ∧ leads es e.v (z + (if l = [] then e.l else e.n)) l = some r := by
  rw [leads] at h
  cases he : es[j]? with
  | none => rw [he] at h; cases h
  | some e =>
    rw [he] at h
    have h : (if e.u = a then leads es e.v (z + (if l = [] then e.l else e.n)) l else none) = some r := h
    by_cases hu : e.u = a
    · rw [if_pos hu] at h; exact ⟨e, rfl, hu, h⟩
    · rw [if_neg hu] at h; cases h
set_option maxRecDepth 100000 in
set_option maxHeartbeats 4000000 in
theorem right43_any (v : ImgV) (x : Img) (vc : CrtV) (c : Crt) (s t : Nat) (L : List Nat) (A : Option Addr) (cp : Nat) (z : Int) (w : World) (h : ImgAt w v x) (hc : CrtE w vc c) (hr : (chkImg x).2 = 0) (hl : c.edges.length = x.edges.length) (hB : edgeB c)
    (hL : Reads w 1 A L.length (natsV L)) (hLl : L.length ≤ 101) (_hs : s < x.modes.length) (hlead : leads (egs x c) s 0 L = some (t, z)) :
    Calls Tryd.prog 25 #[.agg (imgCells v x).toArray, .agg (crtCells vc c).toArray, .int .i64 (s : Int), .int .i64 (t : Int), .agg #[.slice A L.length cp, .int .i64 z]] w fun e w' => e = .returned (.bool true) ∧ Keep [] w w' := by
  have hR := right_of hr
  have hM8 := hR.nm.2
  have hE24 := hR.ne
  have hok := egs_ok hr hB
  obtain ⟨W0, hW0⟩ : ∃ W0, ((w.alloc (.cells (imgCells v x).toArray 26)).alloc (.cells (crtCells vc c).toArray 30)).alloc (.cells #[.slice A L.length cp, .int .i64 z] 70) = W0 := ⟨_, rfl⟩
  have b0 : Blk W0 w.heap.size 26 (imgCells v x).toArray := by rw [← hW0]; exact ((img_box w v x).alloc _).alloc _
  have b1 : Blk W0 (w.heap.size + 1) 30 (crtCells vc c).toArray := by rw [← hW0]; exact (Blk.new1 _ _ _ _).alloc _
  have b2 : Blk W0 (w.heap.size + 2) 70 #[.slice A L.length cp, .int .i64 z] := by rw [← hW0]; exact Blk.new2 _ _ _ _ _
  have K0 : Keep [] w W0 := by rw [← hW0]; exact (((Keep.refl [] w).alloc _).alloc _).alloc _
  have HSp := fun (i : Nat) (hi : i < c.edges.length) w' (k : Keep [] W0 w') => Lib.hid (spans_any vc c i w' (hc.keep0 (K0.then k)) hi hB)
  have HCC : Hid ((crtCells vc c).length = 2) := show _ = _ from rfl
  have HCr : Hid (∀ w', Keep [] W0 w' → CellsAt w' (w.heap.size + 1) 0 (crtCells vc c)) := fun w' k => (b1.keep0 k).cellsAt
  have HI3 : Hid (∀ w', Keep [] W0 w' → w'.cell? ⟨w.heap.size, 3, none⟩ = some (.slice v.ea x.edges.length v.ec)) := fun w' hk => img_c3 (b0.keep0 hk)
  have HWy : Hid (∀ w', Keep [] W0 w' → w'.cell? ⟨w.heap.size + 2, 0, none⟩ = some (.slice A L.length cp) ∧ w'.cell? ⟨w.heap.size + 2, 1, none⟩ = some (.int .i64 z)) := fun w' k => by
    have e0 := (b2.keep0 k).cell 0
    have e1 := (b2.keep0 k).cell 1
    simp at e0 e1
    exact ⟨e0, e1⟩
  have hlx := h.le
  unfold maxLen at hlx
  have HEd : Hid (∀ i, (hi : i < x.edges.length) → ∃ b o, v.ea = some ⟨b, o, none⟩ ∧ ∀ w', Keep [] W0 w' → w'.cell? ⟨b, o + i * 23, none⟩ = some (.int .i64 x.edges[i].frm) ∧ w'.cell? ⟨b, o + i * 23 + 1, none⟩ = some (.int .i64 x.edges[i].to)) := fun i hi => by
    obtain ⟨b, o, hA, hbw, hcs⟩ := h.edge (by omega)
    refine ⟨b, o, hA, fun w' k => ⟨?_, ((hcs i hi).keep0 (K0.then k) hbw) 1 (.int .i64 x.edges[i].to) rfl⟩⟩
    have := ((hcs i hi).keep0 (K0.then k) hbw) 0 (.int .i64 x.edges[i].frm) rfl
    rwa [Nat.add_zero] at this
  have HAt : Hid (∀ i (e : Eg), (egs x c)[i]? = some e → ∃ (hi : i < x.edges.length) (hi2 : i < c.edges.length), x.edges[i].frm = (e.u : Int) ∧ x.edges[i].to = (e.v : Int) ∧ c.edges[i].1 + c.edges[i].2 = e.n ∧ c.edges[i].1 = e.l) := fun i e he => by
    have hi := (List.getElem?_eq_some_iff.1 he).1
    rw [egs_len hl] at hi
    rw [egs_at hi (by omega)] at he
    injection he with he
    obtain ⟨⟨a0, a1⟩, ⟨b0, b1⟩, _⟩ := hR.edgeIn i hi
    refine ⟨hi, by omega, ?_, ?_, by rw [← he], by rw [← he]⟩
    · rw [← he]; show x.edges[i].frm = ((x.edges[i].frm.toNat : Nat) : Int); omega
    · rw [← he]; show x.edges[i].to = ((x.edges[i].to.toNat : Nat) : Int); omega
  have HRd := Lib.hid (hL.keep0 K0)
  have HOK := Lib.hid hok
  have HLD := Lib.hid hlead
  have HLL := Lib.hid hLl
  have HE24 := Lib.hid hE24
  have HK0 := Lib.hid K0
  have HW := Lib.hid hW0
  obtain ⟨w0, _⟩ := HWy.out W0 (Keep.refl _ _)
  clear h hc hr hB hR hok K0 hW0 b0 b1 b2 hlx hE24 hlead hL hl hM8
  generalize egs x c = es at *
  generalize imgCells v x = il at *
  generalize crtCells vc c = cl at *
  go_enter Tryd.func25, Tryd.ntmps25
  go_wp2_with (rw [HW.out])
  go_loopw [11, 12, 21] (fun av zv vi wr => ∃ (i a : Nat) (y : Int), i ≤ L.length ∧ vi = .int .i64 (i : Int) ∧ av = .int .i64 (a : Int) ∧ zv = .int .i64 y ∧ (0 ≤ y ∧ y ≤ 1073741824 * (i : Int)) ∧ Hid (leads es a y (L.drop i) = some (t, z)) ∧ Keep [] W0 wr) (fun _ _ vi _ => L.length - (intOf vi).toNat)
  case atStart => exact ⟨0, s, 0, Nat.zero_le _, rfl, rfl, rfl, by omega, HLD, Keep.refl _ _⟩
  case round =>
    clear w0
    obtain ⟨i, a, y, hi, rfl, rfl, rfl, hy, hld, hK⟩ := hrel
    have hLl := HLL.out
    obtain ⟨w0, w1⟩ := HWy.out wr hK
    have c3 := HI3.out wr hK
    by_cases hlt : i < L.length
    · have hdr : L.drop i = L[i] :: L.drop (i + 1) := List.drop_eq_getElem_cons hlt
      have hld2 := hld.out
      rw [hdr] at hld2
      obtain ⟨e, he, hu, hle⟩ := leads_cons hld2
      obtain ⟨hj, hj2, hf, ht, hn1, hn2⟩ := HAt.out _ e he
      obtain ⟨eb, eo, heA, hec⟩ := HEd.out _ hj
      obtain ⟨f0, f1⟩ := hec wr hK
      obtain ⟨lb, lo, hlA, hlb, hlc⟩ := (HRd.out.keep0 hK).addr (by omega)
      have hlv := hlc i (.int .i64 (L[i] : Int)) (by unfold natsV; rw [List.getElem?_map, List.getElem?_eq_getElem hlt]; rfl)
      have hEn := HOK.out.n e (List.mem_of_getElem? he)
      have hEl := HOK.out.l e (List.mem_of_getElem? he)
      have HSpi := HSp _ hj2
      rw [hn1, hn2] at HSpi
      rw [hf, hu] at f0
      rw [ht] at f1
      have hdn : (L.drop (i + 1) = []) ↔ i + 1 = L.length := by
        rw [List.drop_eq_nil_iff]
        omega
      rw [heA] at c3
      rw [hlA] at w0 ⊢
      have hj0 : decide ((L[i] : Int) < 0) = false := decide_eq_false (by omega)
      have hj1 : decide ((x.edges.length : Int) ≤ (L[i] : Int)) = false := decide_eq_false (by omega)
      have hj1n : decide (x.edges.length ≤ L[i]) = false := decide_eq_false (by omega)
      have p0 : (0 : Int) ≤ (i : Int) := by omega
      have p1 : (i : Int) < (L.length : Int) := by omega
      have p2 : decide ((i : Int) < (L.length : Int)) = true := decide_eq_true p1
      have p3 : (0 : Int) ≤ (L[i] : Int) := by omega
      have p4 : (L[i] : Int) < (x.edges.length : Int) := by omega
      have hz1 : ((a : Int) != (a : Int)) = false := by simp
      have hE24 := HE24.out
      have HK := Lib.hid hK
      have HLE := Lib.hid hle
      have HDN := Lib.hid hdn
      have hfz : ∀ w', Keep [] wr w' → w'.cell? ⟨eb, eo + L[i] * 23, none⟩ = some (.int .i64 x.edges[L[i]].frm) ∧ w'.cell? ⟨eb, eo + L[i] * 23 + 1, none⟩ = some (.int .i64 (e.v : Int)) := fun w' k => by
        have := hec w' (hK.then k)
        rw [ht] at this
        exact this
      have hcC := Lib.hid (HCr.out wr hK)
      have HSpw := HSpi wr hK
      have heA' := heA
      have hlA' := hlA
      clear hK hld hld2 hdr he hle hdn hec hlc heA hlA hlb HSpi hf ht hn1 hn2 hu
      generalize L[i] = j at *
      generalize e.n = en at *
      generalize e.l = el at *
      generalize e.v = ev at *
      go_wp2_with (refine wpList_load_agg rfl 30 (.tmp 6) rfl rfl (cs := cl) (by rw [HCC.out]; exact agg_cert) hcC.out ?_)
      refine HSpw.out.mono ?_
      rintro e2 w5 ⟨rfl, k5⟩
      have HK5 := Lib.hid (HK.out.then k5)
      obtain ⟨w05, w15⟩ := HWy.out w5 HK5.out
      have c35 := HI3.out w5 HK5.out
      obtain ⟨f05, f15⟩ := hfz w5 k5
      rw [heA'] at c35
      rw [hlA'] at w05
      have hwn : IntKind.i64.wrap ((L.length : Int) - 1) = (L.length : Int) - 1 := IntWalk.i64_in _ (by omega)
      have hy1 : IntKind.i64.wrap (y + el) = y + el := IntWalk.i64_in _ (by omega)
      have hy2 : IntKind.i64.wrap (y + en) = y + en := IntWalk.i64_in _ (by omega)
      clear k5 HSpw hcC w0 w1 c3 f0 f1 hfz w15 heA' hlA'
      by_cases hlast : i + 1 = L.length
      · have z1 : decide ((i : Int) = (L.length : Int) - 1) = true := decide_eq_true (by omega)
        have z2 : ((i : Int) == (L.length : Int) - 1) = true := by simp; omega
        have HX : Hid (leads es ev (y + el) (L.drop (i + 1)) = some (t, z)) := by
          show _ = _
          have := HLE.out
          rw [if_pos (HDN.out.2 hlast)] at this
          exact this
        have hyb : 0 ≤ y + el ∧ y + el ≤ 1073741824 * ((i + 1 : Nat) : Int) := by push_cast; omega
        clear hlast HLE HDN
        generalize hyy : y + el = y2 at *
        go_wp2
        go_roundw
        case rel => exact ⟨i + 1, ev, y2, by omega, by go_num, rfl, rfl, hyb, HX, HK5.out⟩
        case measure => simp [intOf] <;> omega
      · have z1 : decide ((i : Int) = (L.length : Int) - 1) = false := decide_eq_false (by omega)
        have z2 : ((i : Int) == (L.length : Int) - 1) = false := by simp; omega
        have HX : Hid (leads es ev (y + en) (L.drop (i + 1)) = some (t, z)) := by
          show _ = _
          have := HLE.out
          rw [if_neg (fun h => hlast (HDN.out.1 h))] at this
          exact this
        have hyb : 0 ≤ y + en ∧ y + en ≤ 1073741824 * ((i + 1 : Nat) : Int) := by push_cast; omega
        clear hlast HLE HDN
        generalize hyy : y + en = y2 at *
        go_wp2
        go_roundw
        case rel => exact ⟨i + 1, ev, y2, by omega, by go_num, rfl, rfl, hyb, HX, HK5.out⟩
        case measure => simp [intOf] <;> omega
    · obtain rfl : i = L.length := by omega
      have p2 : decide ((L.length : Int) < (L.length : Int)) = false := by simp
      have hld2 := hld.out
      rw [List.drop_length] at hld2
      have hfin : a = t ∧ y = z := by
        have h : some (a, y) = some (t, z) := hld2
        injection h with h
        injection h with h1 h2
        exact ⟨h1, h2⟩
      obtain ⟨rfl, rfl⟩ := hfin
      have z1 : ((a : Int) == (a : Int)) = true := by simp
      have z2 : (y == y) = true := by simp
      have HK := Lib.hid hK
      clear hK hld hld2
      go_wp2
      go_ret
      exact ⟨rfl, HK0.out.then HK.out⟩
end Go.Proofs.YteocldlglklnjaaDoor

namespace Go.Proofs.YteocldlglklnjaaDoor
open Go.RowKit
attribute [local go_sem] Oper.semAt_some

theorem roundH_take (es : List Eg) (p : (Nat → Int) × (Nat → Int)) {i : Nat} {e : Eg} (h : es[i]? = some e) : roundH (es.take (i + 1)) p = relH (roundH (es.take i) p) e := by
  have hi := (List.getElem?_eq_some_iff.1 h).1
  have he := (List.getElem?_eq_some_iff.1 h).2
  unfold roundH
  rw [List.take_succ_eq_append_getElem hi, List.foldl_append, he]; rfl
def InF (t : Nat → Int) : Prop := ∀ v, 0 ≤ t v ∧ t v ≤ 1099511627776
theorem inF_rel {t : Nat → Int} (h : InF t) {e : Eg} (hn : 0 ≤ e.n) : InF (rel t e) := by
  intro v
  unfold rel
  split
  · by_cases hv : v = e.v
    · subst hv
      rw [upd_same]
      have h1 := h e.u
      have h2 := h e.v
      omega
    · rw [upd_ne _ _ hv]; exact h v
  · exact h v
theorem inF_start (s : Nat) : InF (t0R s) := by
  intro v
  by_cases hv : v = s
  · subst hv; rw [t0R_start]; omega
  · rw [t0R_ne hv]; unfold farR; omega
def RetRow (w : World) (t : Nat → Int) (M : Nat) (e : Ending) (w' : World) : Prop := ∃ g, e = .returned (.slice (some ⟨g, 0, none⟩) M M) ∧ Blk w' g 3 (tickL t M).toArray ∧ Keep [] w w'
theorem iniT_far (M : Nat) : tickL (iniT M) M = tickL (fun _ => farR) M := tickL_congr (fun i hi => by unfold iniT farR; rw [if_pos hi])
set_option maxRecDepth 100000 in
set_option maxHeartbeats 8000000 in
theorem least_no (v : ImgV) (x : Img) (vc : CrtV) (c : Crt) (fr : Int) (w : World) (hM8 : x.modes.length ≤ 8) (hno : fr < 0 ∨ (x.modes.length : Int) ≤ fr) :
    Calls Tryd.prog 22 #[.agg (imgCells v x).toArray, .agg (crtCells vc c).toArray, .int .i64 fr] w (RetRow w (fun _ => farR) x.modes.length) := by
  obtain ⟨W0, hW0⟩ : ∃ W0, (w.alloc (.cells (imgCells v x).toArray 26)).alloc (.cells (crtCells vc c).toArray 30) = W0 := ⟨_, rfl⟩
  have b0 : Blk W0 w.heap.size 26 (imgCells v x).toArray := by rw [← hW0]; exact (img_box w v x).alloc _
  have b1 : Blk W0 (w.heap.size + 1) 30 (crtCells vc c).toArray := by rw [← hW0]; exact Blk.new1 _ _ _ _
  have K0 : Keep [] w W0 := by rw [← hW0]; exact ((Keep.refl [] w).alloc _).alloc _
  have hz0 : W0.heap.size = w.heap.size + 2 := by rw [← hW0]; simp
  have HI : Hid (∀ w', Keep [] W0 w' → w'.cell? ⟨w.heap.size, 2, none⟩ = some (.slice v.ma x.modes.length v.mc) ∧ w'.cell? ⟨w.heap.size, 3, none⟩ = some (.slice v.ea x.edges.length v.ec) ∧ w'.cell? ⟨w.heap.size + 1, 1, none⟩ = some (.slice vc.ea c.edges.length vc.ec)) := fun w' hk => ⟨img_c2 (b0.keep0 hk), img_c3 (b0.keep0 hk), by
    have := (b1.keep0 hk).at_ (j := 1) (u := .slice vc.ea c.edges.length vc.ec) rfl
    exact this⟩
  have HK0 := Lib.hid K0
  have HW := Lib.hid hW0
  have hIF : ∀ w', Keep [] W0 w' → w'.cell? ⟨w.heap.size, 2, none⟩ = some (.slice v.ma x.modes.length v.mc) ∧ w'.cell? ⟨w.heap.size, 3, none⟩ = some (.slice v.ea x.edges.length v.ec) := fun w' k => ⟨(HI.out w' k).1, (HI.out w' k).2.1⟩
  have HM8 := Lib.hid hM8
  clear K0 hW0 b0 b1 hM8 hz0
  generalize (imgCells v x).toArray = il at *
  generalize (crtCells vc c).toArray = cl at *
  go_enter Tryd.func22, Tryd.ntmps22
  go_wp2_with (rw [HW.out])
  refine ap_begin 9 (Keep [] W0) rfl (Keep.refl _ _).drew (fun hS hPan => ?_) (fun _ _ d _ _ h => by cases d <;> exact h)
  (refine ap_val (v := ?_) 0 rfl (by kernel_rfl) (by kernel_rfl) (by kernel_rfl) (by kernel_rfl) (by rfl) hPan ?_ hS ?_; rotate_left; (intro w' hSw; go_simp; try with_reducible rfl); simp only [Act.put, List.setIfInBounds_toArray, List.set_cons_zero, List.set_cons_succ])
  (refine ap_val (v := ?_) 1 rfl (by kernel_rfl) (by kernel_rfl) (by kernel_rfl) (by kernel_rfl) (by rfl) hPan ?_ hS ?_; rotate_left; (intro w' hSw; obtain ⟨f1,f2⟩ := hIF w' hSw; go_simp; try with_reducible rfl); simp only [Act.put, List.setIfInBounds_toArray, List.set_cons_zero, List.set_cons_succ])
  (refine ap_val (v := ?_) 2 rfl (by kernel_rfl) (by kernel_rfl) (by kernel_rfl) (by kernel_rfl) (by rfl) hPan ?_ hS ?_; rotate_left; (intro w' hSw; go_simp; try with_reducible rfl); simp only [Act.put, List.setIfInBounds_toArray, List.set_cons_zero, List.set_cons_succ])
  (refine ap_val (v := ?_) 4 rfl (by kernel_rfl) (by kernel_rfl) (by kernel_rfl) (by kernel_rfl) (by rfl) hPan ?_ hS ?_; rotate_left; (intro w' hSw; go_simp; try with_reducible rfl); simp only [Act.put, List.setIfInBounds_toArray, List.set_cons_zero, List.set_cons_succ])
  (refine ap_val (v := ?_) 5 rfl (by kernel_rfl) (by kernel_rfl) (by kernel_rfl) (by kernel_rfl) (by rfl) hPan ?_ hS ?_; rotate_left; (intro w' hSw; obtain ⟨f1,f2⟩ := hIF w' hSw; go_simp; try with_reducible rfl); simp only [Act.put, List.setIfInBounds_toArray, List.set_cons_zero, List.set_cons_succ])
  (refine ap_val (v := ?_) 6 rfl (by kernel_rfl) (by kernel_rfl) (by kernel_rfl) (by kernel_rfl) (by rfl) hPan ?_ hS ?_; rotate_left; (intro w' hSw; go_simp; try with_reducible rfl); simp only [Act.put, List.setIfInBounds_toArray, List.set_cons_zero, List.set_cons_succ])
  generalize W0.drew = wd at *
  refine ap_two 3 7 (by kernel_rfl) ?_ ?_
  refine op_run (v := .slice (some ⟨wd.heap.size, 0, none⟩) x.modes.length x.modes.length) (w' := wd.alloc (.cells (List.replicate x.modes.length (.int .i64 0)).toArray 3)) 3 rfl (by rfl) (run_makeS (by have := HM8.out; omega) rfl rfl wd) ?_
  have DH : Blk (wd.alloc (.cells (List.replicate x.modes.length (.int .i64 0)).toArray 3)) wd.heap.size 3 (List.replicate x.modes.length (.int .i64 0)).toArray := Blk.new _ _ _
  have hS1 : Keep [] W0 (wd.alloc (.cells (List.replicate x.modes.length (.int .i64 0)).toArray 3)) := hS.alloc _
  have hzd := hS.size
  have hz1 : (wd.alloc (.cells (List.replicate x.modes.length (.int .i64 0)).toArray 3)).heap.size = wd.heap.size + 1 := by simp
  obtain ⟨gH, hg1⟩ : ∃ g, wd.heap.size = g := ⟨_, rfl⟩
  rw [hg1] at DH hz1 hzd
  generalize wd.alloc (.cells (List.replicate x.modes.length (.int .i64 0)).toArray 3) = we at *
  refine ⟨fun _ => hS1, ?_⟩
  rw [hg1]
  clear hg1
  replace hS := hS1
  (simp only [Act.put, List.setIfInBounds_toArray, List.set_cons_zero, List.set_cons_succ])
  (refine ap_val (v := ?_) 8 rfl (by kernel_rfl) (by kernel_rfl) (by kernel_rfl) (by kernel_rfl) (by rfl) hPan ?_ hS ?_; rotate_left; (intro w' hSw; go_simp; try with_reducible rfl); simp only [Act.put, List.setIfInBounds_toArray, List.set_cons_zero, List.set_cons_succ])
  refine ap_one 7 (by kernel_rfl) ?_
  refine op_run (v := .slice (some ⟨we.heap.size, 0, none⟩) x.modes.length x.modes.length) (w' := we.alloc (.cells (List.replicate x.modes.length (.int .i64 0)).toArray 3)) 7 rfl (by rfl) (run_makeS (by have := HM8.out; omega) rfl rfl we) ?_
  have DT : Blk (we.alloc (.cells (List.replicate x.modes.length (.int .i64 0)).toArray 3)) we.heap.size 3 (List.replicate x.modes.length (.int .i64 0)).toArray := Blk.new _ _ _
  replace DH := DH.alloc (.cells (List.replicate x.modes.length (.int .i64 0)).toArray 3)
  have hS2 := hS1.alloc (.cells (List.replicate x.modes.length (.int .i64 0)).toArray 3)
  obtain ⟨gT, hg2⟩ : ∃ g, we.heap.size = g := ⟨_, rfl⟩
  have hne : gH ≠ gT := by omega
  have hgH : W0.heap.size ≤ gH := by omega
  have hgT : W0.heap.size ≤ gT := by omega
  rw [hg2] at DT
  generalize we.alloc (.cells (List.replicate x.modes.length (.int .i64 0)).toArray 3) = wf at *
  refine ⟨fun _ => hS2, ?_⟩
  rw [hg2]
  clear hg2 hz1 hzd hS1
  replace hS := hS2
  clear hS2
  (simp only [Act.put, List.setIfInBounds_toArray, List.set_cons_zero, List.set_cons_succ])
  rotate_left
  refine op_run (v := .slice (some ⟨wd.heap.size, 0, none⟩) x.modes.length x.modes.length) (w' := wd.alloc (.cells (List.replicate x.modes.length (.int .i64 0)).toArray 3)) 7 rfl (by rfl) (run_makeS (by have := HM8.out; omega) rfl rfl wd) ?_
  have DT : Blk (wd.alloc (.cells (List.replicate x.modes.length (.int .i64 0)).toArray 3)) wd.heap.size 3 (List.replicate x.modes.length (.int .i64 0)).toArray := Blk.new _ _ _
  have hS1 : Keep [] W0 (wd.alloc (.cells (List.replicate x.modes.length (.int .i64 0)).toArray 3)) := hS.alloc _
  have hzd := hS.size
  have hz1 : (wd.alloc (.cells (List.replicate x.modes.length (.int .i64 0)).toArray 3)).heap.size = wd.heap.size + 1 := by simp
  obtain ⟨gT, hg1⟩ : ∃ g, wd.heap.size = g := ⟨_, rfl⟩
  rw [hg1] at DT hz1 hzd
  generalize wd.alloc (.cells (List.replicate x.modes.length (.int .i64 0)).toArray 3) = we at *
  refine ⟨fun _ => hS1, ?_⟩
  rw [hg1]
  clear hg1
  replace hS := hS1
  (simp only [Act.put, List.setIfInBounds_toArray, List.set_cons_zero, List.set_cons_succ])
  refine ap_one 3 (by kernel_rfl) ?_
  refine op_run (v := .slice (some ⟨we.heap.size, 0, none⟩) x.modes.length x.modes.length) (w' := we.alloc (.cells (List.replicate x.modes.length (.int .i64 0)).toArray 3)) 3 rfl (by rfl) (run_makeS (by have := HM8.out; omega) rfl rfl we) ?_
  have DH : Blk (we.alloc (.cells (List.replicate x.modes.length (.int .i64 0)).toArray 3)) we.heap.size 3 (List.replicate x.modes.length (.int .i64 0)).toArray := Blk.new _ _ _
  replace DT := DT.alloc (.cells (List.replicate x.modes.length (.int .i64 0)).toArray 3)
  have hS2 := hS1.alloc (.cells (List.replicate x.modes.length (.int .i64 0)).toArray 3)
  obtain ⟨gH, hg2⟩ : ∃ g, we.heap.size = g := ⟨_, rfl⟩
  have hne : gH ≠ gT := by omega
  have hgH : W0.heap.size ≤ gH := by omega
  have hgT : W0.heap.size ≤ gT := by omega
  rw [hg2] at DH
  generalize we.alloc (.cells (List.replicate x.modes.length (.int .i64 0)).toArray 3) = wf at *
  refine ⟨fun _ => hS2, ?_⟩
  rw [hg2]
  clear hg2 hz1 hzd hS1
  replace hS := hS2
  clear hS2
  (simp only [Act.put, List.setIfInBounds_toArray, List.set_cons_zero, List.set_cons_succ])
  (refine ap_val (v := ?_) 8 rfl (by kernel_rfl) (by kernel_rfl) (by kernel_rfl) (by kernel_rfl) (by rfl) hPan ?_ hS ?_; rotate_left; (intro w' hSw; go_simp; try with_reducible rfl); simp only [Act.put, List.setIfInBounds_toArray, List.set_cons_zero, List.set_cons_succ])
  rotate_left
  all_goals
    refine ap_one 9 (by kernel_rfl) ?_
    refine op_run (v := .slice (some ⟨gT, 0, none⟩) x.modes.length x.modes.length) (w' := wf) 9 rfl (by rfl) (by go_simp) ?_
    refine ⟨fun _ => hS, ap_done (by kernel_rfl) ?_ _⟩
    (simp only [Act.put, List.setIfInBounds_toArray, List.set_cons_zero, List.set_cons_succ])
    rw [tickL_rep, iniT_zero] at DT
    rw [tickL_rep, iniT_zero] at DH
    have HDT := Lib.hid DT
    have HDH := Lib.hid DH
    have HKF := Lib.hid hS
    have HNE := Lib.hid hne
    have HGG := Lib.hid (And.intro hgT hgH)
    clear DT DH hS hPan hne hgT hgH hIF
    go_wp2
    go_loopw [9] (fun vi wr => ∃ j : Nat, j ≤ x.modes.length ∧ vi = .int .i64 (j : Int) ∧ Blk wr gH 3 (tickL (iniT j) x.modes.length).toArray ∧ Blk wr gT 3 (tickL (iniT j) x.modes.length).toArray ∧ Keep [] W0 wr) (fun vi _ => x.modes.length - (intOf vi).toNat)
    case atStart => exact ⟨0, Nat.zero_le _, rfl, HDH.out, HDT.out, HKF.out⟩
    case round =>
      obtain ⟨j, hj, rfl, hH, hT, hK⟩ := hrel
      have hM8 := HM8.out
      have hgg := HGG.out
      have hne := HNE.out
      by_cases hlt : j < x.modes.length
      · have p0 : (0 : Int) ≤ (j : Int) := by omega
        have p1 : (j : Int) < (x.modes.length : Int) := by omega
        have p2 : decide ((j : Int) < (x.modes.length : Int)) = true := decide_eq_true p1
        have cH := hH.at_ (tickL_at (iniT j) hlt)
        have fH := hH.frozen j
        have hH2 := hH.set_ j (.int .i64 1099511627776)
        rw [tickL_set, iniT_step] at hH2
        have hT2 := hT.keep (keep_set wr gH j (.int .i64 1099511627776)) (by simp; omega)
        have K2 : Keep [] W0 (wr.setCell ⟨gH, j, none⟩ (.int .i64 1099511627776)) := hK.trans (keep_set wr gH j _) (fun y hy hlt => by simp at hy; omega)
        obtain ⟨w2, hw2⟩ : ∃ w2, wr.setCell ⟨gH, j, none⟩ (.int .i64 1099511627776) = w2 := ⟨_, rfl⟩
        rw [hw2] at hT2 hH2 K2
        have cT := hT2.at_ (tickL_at (iniT j) hlt)
        have fT := hT2.frozen j
        have hT3 := hT2.set_ j (.int .i64 1099511627776)
        rw [tickL_set, iniT_step] at hT3
        have hH3 := hH2.keep (keep_set w2 gT j (.int .i64 1099511627776)) (by simp; omega)
        have K3 : Keep [] W0 (w2.setCell ⟨gT, j, none⟩ (.int .i64 1099511627776)) := K2.trans (keep_set w2 gT j _) (fun y hy hlt => by simp at hy; omega)
        have HALL := Lib.hid (And.intro hH3 (And.intro hT3 K3))
        have HW2 := Lib.hid hw2
        clear hT hH hK hT2 hH2 K2 hT3 hH3 K3 hw2
        go_wp2_with (rw [HW2.out])
        go_roundw
        case rel => exact ⟨j + 1, by omega, by go_num, HALL.out.1, HALL.out.2.1, HALL.out.2.2⟩
        case measure => simp [intOf] <;> omega
      · obtain rfl : j = x.modes.length := by omega
        have p2 : decide ((x.modes.length : Int) < (x.modes.length : Int)) = false := by simp
        rw [iniT_far] at hH
        have HH := Lib.hid hH
        have HK := Lib.hid hK
        clear hH hT hK
        by_cases h1 : fr < 0
        · have q0 : decide (fr < 0) = true := decide_eq_true h1
          clear hno
          go_wp2
          go_ret
          exact ⟨gH, rfl, HH.out, HK0.out.then HK.out⟩
        · have q0 : decide (fr < 0) = false := decide_eq_false h1
          have q1 : decide ((x.modes.length : Int) ≤ fr) = true := decide_eq_true (by omega)
          clear hno
          go_wp2
          go_ret
          exact ⟨gH, rfl, HH.out, HK0.out.then HK.out⟩
end Go.Proofs.YteocldlglklnjaaDoor
