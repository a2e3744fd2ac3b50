/- May a task be, may queues be: the document's tests. May an edge be: the document's test. Which images may be, where and why others may not: the document's answer; more than is asked. -/
import Derived.Test.YtfgjcjpemlgnmaaDoorImgT
import Derived.Test.YtfgjcjpemlgnmaaDoorImgG
import Derived.Test.YtfgjcjpemlgnmaaDoorReg
import Derived.Deep.DeepCutAuto
import Derived.Deep.LoopGhost
import Derived.Test.YtfgjcjpemlgnmaaDoorImgC
namespace Go.Proofs.YtfgjcjpemlgnmaaDoor
open Go.RowKit

set_option maxRecDepth 100000 in
set_option maxHeartbeats 1000000 in
theorem rtask_any (t : Tsk) (res : Int) (w : World) (hl : t.lon.length = 8) :
    Calls Tryd.prog 18 #[.agg (tskCells t).toArray, .int .i64 res] w fun e w' => e = .returned (.bool (tskOk t res)) ∧ Keep [] w w' := by
  have hb := Blk.new w 57 (tskCells t).toArray
  have K0 := (Keep.refl [] w).alloc (.cells (tskCells t).toArray 57)
  have c0 := hb.at_ (tsk_c t 0 (by simp [tskInts]))
  have c1 := hb.at_ (tsk_c t 1 (by simp [tskInts]))
  have c2 := hb.at_ (tsk_c t 2 (by simp [tskInts]))
  have cl := Lib.hid (tsk_lonAt hb)
  simp only [tskInts, List.getElem_cons_zero, List.getElem_cons_succ] at c0 c1 c2
  have HT : Hid (tskOk t res = (inR t.per 1 4096 && inR t.ded 1 t.per && inR t.cost 1 t.ded && lonOk t.cost res 0 t.lon)) := show _ = _ from rfl
  have HL8 := Lib.hid hl
  clear hb hl
  generalize (tskCells t).toArray = cs at *
  generalize t.per = per at *
  generalize t.ded = ded at *
  generalize t.cost = cost at *
  generalize t.lon = lon at *
  generalize tskOk t res = ok at *
  have hc : inR per 1 4096 = false ∨ (inR per 1 4096 = true ∧ inR ded 1 per = false) ∨ (inR per 1 4096 = true ∧ inR ded 1 per = true ∧ inR cost 1 ded = false) ∨ (inR per 1 4096 = true ∧ inR ded 1 per = true ∧ inR cost 1 ded = true) := by
    cases inR per 1 4096 <;> cases inR ded 1 per <;> cases inR cost 1 ded <;> simp
  rcases hc with h1 | ⟨h1, h2⟩ | ⟨h1, h2, h3⟩ | ⟨h1, h2, h3⟩
  iterate 3
    · have HF : Hid (ok = false) := by
        show _ = _
        rw [HT.out]
        simp [*]
      go_enter Tryd.func18, Tryd.ntmps18
      go_wp2_with (refine (in10_any _ _ _ _).mono ?_; rintro e w' ⟨rfl, rfl⟩)
      go_ret
      exact ⟨by rw [HF.out]; rfl, K0⟩
  have HF : Hid (ok = lonOk cost res 0 lon) := by
    show _ = _
    rw [HT.out, h1, h2, h3]
    simp
  go_enter Tryd.func18, Tryd.ntmps18
  go_wp2_with (refine (in10_any _ _ _ _).mono ?_; rintro e w' ⟨rfl, rfl⟩)
  clear h1 h2 h3
  go_loopw [5] (fun i wr => ∃ k : Nat, k ≤ 8 ∧ i = .int .i64 k ∧ lonOk cost res 0 (lon.take k) = true ∧ w.alloc (.cells cs 57) = wr) (fun i _ => 8 - (intOf i).toNat)
  case atStart => exact ⟨0, Nat.zero_le _, rfl, rfl, rfl⟩
  case round =>
    obtain ⟨k, hk, rfl, hlon, rfl⟩ := hrel
    by_cases hlt : k < 8
    · have hk' : k < lon.length := by rw [HL8.out]; exact hlt
      have hcell := cl.out k _ (iv_get hk')
      have hst := Lib.hid (lonOk_step hk' hlon)
      have hbd := Lib.hid (lonOk_bad (cost := cost) (res := res) hk')
      clear hlon
      generalize lon[k] = n at *
      rcases Int.lt_or_le (k : Int) res with g1 | g1
      · have e1 : Hid ((if res ≤ (k : Int) then 0 else cost) = cost) := by show _ = _; rw [if_neg (by omega)]
        cases hv : inR n 0 cost
        · have HB := Lib.hid (hbd.out (by rw [e1.out]; exact hv))
          go_wp2_with (refine (in10_any _ _ _ _).mono ?_; rintro e w' ⟨rfl, rfl⟩)
          go_ret
          exact ⟨by rw [HF.out, HB.out]; rfl, K0⟩
        · have HS := Lib.hid (hst.out (by rw [e1.out]; exact hv))
          go_wp2_with (refine (in10_any _ _ _ _).mono ?_; rintro e w' ⟨rfl, rfl⟩)
          go_roundw
          case rel => exact ⟨k + 1, by omega, by go_num, HS.out, by trivial⟩
          case measure => simp [intOf] <;> omega
      · have e1 : Hid ((if res ≤ (k : Int) then 0 else cost) = 0) := by show _ = _; rw [if_pos g1]
        cases hv : inR n 0 0
        · have HB := Lib.hid (hbd.out (by rw [e1.out]; exact hv))
          go_wp2_with (refine (in10_any _ _ _ _).mono ?_; rintro e w' ⟨rfl, rfl⟩)
          go_ret
          exact ⟨by rw [HF.out, HB.out]; rfl, K0⟩
        · have HS := Lib.hid (hst.out (by rw [e1.out]; exact hv))
          go_wp2_with (refine (in10_any _ _ _ _).mono ?_; rintro e w' ⟨rfl, rfl⟩)
          go_roundw
          case rel => exact ⟨k + 1, by omega, by go_num, HS.out, by trivial⟩
          case measure => simp [intOf] <;> omega
    · obtain rfl : k = 8 := by omega
      rw [List.take_of_length_le (by rw [HL8.out]; exact Nat.le_refl _)] at hlon
      have HB := Lib.hid hlon
      clear hlon
      go_wp2
      go_ret
      exact ⟨by rw [HF.out, HB.out]; rfl, K0⟩
end Go.Proofs.YtfgjcjpemlgnmaaDoor

namespace Go.Proofs.YtfgjcjpemlgnmaaDoor
open Go.RowKit

theorem seenOf_mem (l : List Int) (n : Int) : (seenOf l).contains n = (decide (n ≠ 0) && l.contains n) := by
  have h : ∀ (l : List Int), (∀ m, m ∈ seenOf l ↔ m ≠ 0 ∧ m ∈ l) := by
    intro l
    have : ∀ (l s : List Int) m, m ∈ l.foldl (fun s n => if n = 0 then s else n :: s) s ↔ (m ∈ s ∨ (m ≠ 0 ∧ m ∈ l)) := by
      intro l
      induction l with
      | nil => intro s m; simp
      | cons a l ih =>
        intro s m
        rw [List.foldl_cons, ih]
        by_cases ha : a = 0
        · rw [if_pos ha]
          constructor
          · rintro (h | ⟨h1, h2⟩)
            · exact .inl h
            · exact .inr ⟨h1, by simp [h2]⟩
          · rintro (h | ⟨h1, h2⟩)
            · exact .inl h
            · rcases List.mem_cons.1 h2 with rfl | h2
              · exact absurd ha h1
              · exact .inr ⟨h1, h2⟩
        · rw [if_neg ha]
          constructor
          · rintro (h | ⟨h1, h2⟩)
            · rcases List.mem_cons.1 h with rfl | h
              · exact .inr ⟨ha, by simp⟩
              · exact .inl h
            · exact .inr ⟨h1, by simp [h2]⟩
          · rintro (h | ⟨h1, h2⟩)
            · exact .inl (by simp [h])
            · rcases List.mem_cons.1 h2 with rfl | h2
              · exact .inl (by simp)
              · exact .inr ⟨h1, h2⟩
    intro m
    unfold seenOf
    rw [this l [] m]
    simp
  rw [Bool.eq_iff_iff]
  simp [h l]

/-- The two modes in variables of their own. -/
def TwoModes (wr : World) (s1 s2 : Int) (A1 A2 : Option Addr) (n1 n2 c1 c2 : Nat) (p7 p8 : Value) (wx : World) : Prop :=
  ∃ g7 g8, p7 = .pointer (some ⟨g7, 0, none⟩) ∧ p8 = .pointer (some ⟨g8, 0, none⟩) ∧ Blk wx g7 47 #[.int .u32 s1, .slice A1 n1 c1] ∧ Blk wx g8 47 #[.int .u32 s2, .slice A2 n2 c2] ∧ Keep [] wr wx

set_option maxRecDepth 100000 in
set_option maxHeartbeats 4000000 in
theorem redge_any (v : ImgV) (x : Img) (i : Nat) (w : World) (h : ImgAt w v x) (hi : i < x.edges.length) (hnm : x.modes.length ≤ 100) :
    Calls Tryd.prog 20 #[.agg (imgCells v x).toArray, .int .i64 (i : Int)] w fun e w' => e = .returned (.bool (edgOk x i x.edges[i])) ∧ Keep [] w w' := by
  have hle := h.le
  unfold maxLen at hle
  have hb := img_box w v x
  have K0 := (Keep.refl [] w).alloc (.cells (imgCells v x).toArray 26)
  have c3 := img_c3 hb
  have c2 := img_c2 hb
  obtain ⟨b, o, hA, hbl, hcs⟩ := h.edge (by omega)
  have hce := (hcs i hi).keep0 K0 hbl
  have hofs := h.ok.offs _ (List.getElem_mem hi)
  have hmps := h.ok.mp _ (List.getElem_mem hi)
  have hlen : (edgCells x.edges[i]).length = 23 := edgCells_len hofs hmps
  have HL := Lib.hid hlen
  have hone : ∀ u ∈ edgCells x.edges[i], u.oneCell' = true := iv_one _
  have e0 := edg_c x.edges[i] 0 (by simp [edgInts])
  have e1 := edg_c x.edges[i] 1 (by simp [edgInts])
  have e2 := edg_c x.edges[i] 2 (by simp [edgInts])
  simp only [edgInts, List.getElem_cons_zero, List.getElem_cons_succ] at e0 e1 e2
  have hrow : Hid (∀ k (hk : k < x.edges.length), CellsAt w b (o + k * 23) (edgCells x.edges[k])) := hcs
  have hbo := Lib.hid hb
  have HOK : Hid (edgOk x i x.edges[i] = (inR x.edges[i].frm 0 (x.modes.length - 1) && inR x.edges[i].to 0 (x.modes.length - 1) && decide (x.edges[i].frm ≠ x.edges[i].to) && inR x.edges[i].prot 1 3 && (x.edges.take i).all (fun f => !(f.frm == x.edges[i].frm && f.to == x.edges[i].to)) &&
      mapsOk (x.modes.getD x.edges[i].frm.toNat ⟨0, []⟩).qs.length (x.modes.getD x.edges[i].to.toNat ⟨0, []⟩).qs.length 0 [] x.edges[i].mp &&
      offsOk x.edges[i].prot (x.modes.getD x.edges[i].frm.toNat ⟨0, []⟩).set (x.modes.getD x.edges[i].to.toNat ⟨0, []⟩).set 0 x.edges[i].offs)) := show _ = _ from rfl
  have hcm := h.mode
  have hgd := mode_getD x
  have hset := Lib.hid h.ok.set
  have hqm := Lib.hid h.lq
  clear hcs hb hlen
  have hmo := Lib.hid hofs
  have hmm := Lib.hid hmps
  clear hofs hmps
  rw [hA] at c3
  have hmpA := Lib.hid (fun k (hk : k < x.edges[i].mp.length) => edg_mp x.edges[i] k hmo.out hk)
  have hofA := Lib.hid (fun k (hk : k < x.edges[i].offs.length) => edg_offs x.edges[i] k hk)
  generalize edgOk x i x.edges[i] = r at *
  generalize x.edges[i] = e at *
  generalize edgCells e = ec at *
  generalize imgCells v x = il at *
  generalize e.frm = fr at *
  generalize e.to = tq at *
  generalize e.prot = pr at *
  generalize e.mp = mp at *
  generalize e.offs = ofs at *
  have hcase : (r = false ∧ inR fr 0 (x.modes.length - 1) = false) ∨ (r = false ∧ inR fr 0 (x.modes.length - 1) = true ∧ inR tq 0 (x.modes.length - 1) = false) ∨
      (r = false ∧ inR fr 0 (x.modes.length - 1) = true ∧ inR tq 0 (x.modes.length - 1) = true ∧ (fr == tq) = true) ∨
      (r = false ∧ inR fr 0 (x.modes.length - 1) = true ∧ inR tq 0 (x.modes.length - 1) = true ∧ (fr == tq) = false ∧ inR pr 1 3 = false) ∨
      (inR fr 0 (x.modes.length - 1) = true ∧ inR tq 0 (x.modes.length - 1) = true ∧ (fr == tq) = false ∧ inR pr 1 3 = true) := by
    rw [HOK.out]
    have : decide (fr ≠ tq) = !(fr == tq) := by rw [Bool.eq_iff_iff]; simp
    rw [this]
    cases inR fr 0 (x.modes.length - 1) <;> cases inR tq 0 (x.modes.length - 1) <;> cases (fr == tq) <;> cases inR pr 1 3 <;> simp
  rcases hcase with ⟨h0, h1⟩ | ⟨h0, h1, h2⟩ | ⟨h0, h1, h2, h3⟩ | ⟨h0, h1, h2, h3, h4⟩ | ⟨h1, h2, h3, h4⟩
  iterate 4
    -- DEV 1
    · have HF := Lib.hid h0
      clear h0 hcm hgd
      go_enter Tryd.func20, Tryd.ntmps20
      go_wp2_with (first
        | (refine wpList_load_agg rfl 70 (.tmp 17) rfl rfl (cs := ec) (by rw [HL.out]; exact agg_edge) hce ?_)
        | (refine stop_store 70 (.tmp 5) (.tmp 18) rfl ?_))
      constructor
      refine wpList_store_all rfl 70 (.tmp 5) (.tmp 18) rfl rfl rfl (vs := ec) (by rw [HL.out]; exact agg_edge.2) (Blk.new1 _ _ _ _) hone (by rw [HL.out]; rfl) ?_
      intro w2 hb2 hk2
      have q0 := hb2.at_ e0
      have q1 := hb2.at_ e1
      have q2 := hb2.at_ e2
      have KK := ((Keep.refl [w.heap.size + 1] (w.alloc (.cells il.toArray 26))).alloc _).trans hk2 (fun y hy _ => by simpa using hy)
      have q3 := (KK.cell (p := ⟨w.heap.size, 2, none⟩) (by simp) (by simp)).trans c2
      clear KK
      have hk3 := (K0.alloc _).trans hk2 (fun y hy h => by simp at hy; omega)
      clear hb2 hk2 hce
      go_wp2_with (refine (in10_any _ _ _ _).mono ?_; rintro e w' ⟨rfl, rfl⟩)
      go_ret
      exact ⟨by rw [HF.out]; rfl, hk3⟩
    -- END 1
  have hfr : 0 ≤ fr ∧ fr < x.modes.length := by unfold inR at h1; simp at h1; omega
  have hto : 0 ≤ tq ∧ tq < x.modes.length := by unfold inR at h2; simp at h2; omega
  obtain ⟨fk, rfl⟩ : ∃ fk : Nat, fr = (fk : Int) := ⟨fr.toNat, by omega⟩
  obtain ⟨tk, rfl⟩ : ∃ tk : Nat, tq = (tk : Int) := ⟨tq.toNat, by omega⟩
  have hfk : fk < x.modes.length := by omega
  have htk : tk < x.modes.length := by omega
  obtain ⟨bm, om, hMA, hbm, hms⟩ := hcm (by omega)
  obtain ⟨A1, c1, m1, _⟩ := hms fk hfk
  obtain ⟨A2, c2', m2, _⟩ := hms tk htk
  have hs1 := hset.out _ (List.getElem_mem hfk)
  have hs2 := hset.out _ (List.getElem_mem htk)
  have hq1 := hqm.out _ (List.getElem_mem hfk)
  have hq2 := hqm.out _ (List.getElem_mem htk)
  unfold maxLen at hq1 hq2
  have HOK2 : Hid (r = ((x.edges.take i).all (fun f => !(f.frm == (fk : Int) && f.to == (tk : Int))) && mapsOk x.modes[fk].qs.length x.modes[tk].qs.length 0 [] mp && offsOk pr x.modes[fk].set x.modes[tk].set 0 ofs)) := by
    show _ = _
    have i3 : decide ((fk : Int) ≠ tk) = true := by simpa using h3
    have g1 := hgd fk hfr.1 hfr.2
    have g2 := hgd tk hto.1 hto.2
    simp only [Int.toNat_natCast] at g1 g2
    have := HOK.out
    simp only [Int.toNat_natCast] at this
    rw [this, h1, h2, i3, h4, g1, g2]
    simp only [Bool.true_and]
  rw [hMA] at c2
  have hfi : fk < x.modes.length := hfk
  clear HOK hgd hcm hset hqm hms
  generalize x.modes[fk].qs.length = n1 at *
  generalize x.modes[tk].qs.length = n2 at *
  generalize x.modes[fk].set = s1 at *
  generalize x.modes[tk].set = s2 at *
  go_enter Tryd.func20, Tryd.ntmps20
  go_wp2_with (first
    | (refine wpList_load_agg rfl 70 (.tmp 17) rfl rfl (cs := ec) (by rw [HL.out]; exact agg_edge) hce ?_)
    | (refine stop_store 70 (.tmp 5) (.tmp 18) rfl ?_))
  constructor
  refine wpList_store_all rfl 70 (.tmp 5) (.tmp 18) rfl rfl rfl (vs := ec) (by rw [HL.out]; exact agg_edge.2) (Blk.new1 _ _ _ _) hone (by rw [HL.out]; rfl) ?_
  intro w2 hb2 hk2
  have q0 := hb2.at_ e0
  have q1 := hb2.at_ e1
  have q2 := hb2.at_ e2
  have KK := ((Keep.refl [w.heap.size + 1] (w.alloc (.cells il.toArray 26))).alloc _).trans hk2 (fun y hy _ => by simpa using hy)
  have q3 := (KK.cell (p := ⟨w.heap.size, 2, none⟩) (by simp) (by simp)).trans c2
  have qe := (KK.cell (p := ⟨w.heap.size, 3, none⟩) (by simp) (by simp)).trans c3
  have BI := hbo.out.keep KK (by simp)
  have hk3 := (K0.alloc _).trans hk2 (fun y hy h => by simp at hy; omega)
  clear KK hk2 hce hbo hone
  go_wp2_with (refine (in10_any _ _ _ _).mono ?_; rintro e w' ⟨rfl, rfl⟩)
  clear h1 h2 h4
  -- the facts that hold in all worlds behind
  have hF : Hid (∀ w', Keep [] w2 w' → w'.cell? ⟨w.heap.size + 1, 0, none⟩ = some (.int .i64 fk) ∧ w'.cell? ⟨w.heap.size + 1, 1, none⟩ = some (.int .i64 tk) ∧ w'.cell? ⟨w.heap.size + 1, 2, none⟩ = some (.int .i64 pr) ∧
      w'.cell? ⟨w.heap.size, 2, none⟩ = some (.slice (some ⟨bm, om, none⟩) x.modes.length v.mc) ∧ w'.cell? ⟨w.heap.size, 3, none⟩ = some (.slice (some ⟨b, o, none⟩) x.edges.length v.ec)) := fun w' hw =>
    ⟨(hw.cell (p := ⟨w.heap.size + 1, 0, none⟩) hb2.lt (by simp)).trans q0, (hw.cell (p := ⟨w.heap.size + 1, 1, none⟩) hb2.lt (by simp)).trans q1, (hw.cell (p := ⟨w.heap.size + 1, 2, none⟩) hb2.lt (by simp)).trans q2,
      (hw.cell (p := ⟨w.heap.size, 2, none⟩) BI.lt (by simp)).trans q3, (hw.cell (p := ⟨w.heap.size, 3, none⟩) BI.lt (by simp)).trans qe⟩
  clear q0 q1 q2 q3 qe c2 c3 e0 e1 e2
  go_loopw [6] (fun vi wr => ∃ k : Nat, k ≤ i ∧ vi = .int .i64 k ∧ (x.edges.take k).all (fun f => !(f.frm == (fk : Int) && f.to == (tk : Int))) = true ∧ Keep [] w2 wr) (fun vi _ => i - (intOf vi).toNat)
  case atStart => exact ⟨0, Nat.zero_le _, rfl, rfl, Keep.refl _ _⟩
  case round =>
    obtain ⟨k, hk, rfl, hall, hkeep⟩ := hrel
    by_cases hlk : k < i
    · have hke : k < x.edges.length := by omega
      have hrk := hrow.out k hke
      have e0 := edg_c x.edges[k] 0 (by simp [edgInts])
      have e1 := edg_c x.edges[k] 1 (by simp [edgInts])
      simp only [edgInts, List.getElem_cons_zero, List.getElem_cons_succ] at e0 e1
      have r0 := hrk 0 _ e0
      have r1 := hrk 1 _ e1
      simp only [Nat.add_zero] at r0
      have hst := Lib.hid (all_step (p := fun f : Edg => !(f.frm == (fk : Int) && f.to == (tk : Int))) hke hall)
      have hbd : Hid ((!(x.edges[k].frm == (fk : Int) && x.edges[k].to == (tk : Int))) = false → (x.edges.take i).all (fun f => !(f.frm == (fk : Int) && f.to == (tk : Int))) = false) := fun hp => by
        rw [← Bool.not_eq_true]
        intro hh
        have := List.all_eq_true.1 hh x.edges[k] (by rw [← List.getElem_take (j := i) (h := by rw [List.length_take]; omega)]; exact List.getElem_mem _)
        rw [hp] at this; cases this
      clear hall hrk e0 e1
      generalize x.edges[k] = e' at *
      generalize e'.frm = f' at *
      generalize e'.to = t' at *
      have KW := hk3.trans hkeep (by simp)
      have hF2 : ∀ w', Keep [] wr w' → w'.cell? ⟨w.heap.size + 1, 0, none⟩ = some (.int .i64 fk) ∧ w'.cell? ⟨w.heap.size + 1, 1, none⟩ = some (.int .i64 tk) ∧ w'.cell? ⟨w.heap.size, 3, none⟩ = some (.slice (some ⟨b, o, none⟩) x.edges.length v.ec) ∧
          w'.cell? ⟨b, o + k * 23, none⟩ = some (.int .i64 f') ∧ w'.cell? ⟨b, o + k * 23 + 1, none⟩ = some (.int .i64 t') := fun w' hw => by
        obtain ⟨f1, f2, f3, f4, f5⟩ := hF.out w' (hkeep.then hw)
        exact ⟨f1, f2, f5, ((KW.then hw).cell (p := ⟨b, o + k * 23, none⟩) hbl (by simp)).trans r0, ((KW.then hw).cell (p := ⟨b, o + k * 23 + 1, none⟩) hbl (by simp)).trans r1⟩
      clear r0 r1
      have k0 : (0 : Int) ≤ (k : Int) := by omega
      have k1 : (k : Int) < x.edges.length := by omega
      have hcase : ((f' == (fk : Int)) = false) ∨ ((f' == (fk : Int)) = true ∧ (t' == (tk : Int)) = false) ∨ ((f' == (fk : Int)) = true ∧ (t' == (tk : Int)) = true) := by cases (f' == (fk : Int)) <;> cases (t' == (tk : Int)) <;> simp
      -- DEV 2
      rcases hcase with g1 | ⟨g1, g2⟩ | ⟨g1, g2⟩
      · have HS := Lib.hid (hst.out (by simp only [g1]; rfl))
        go_wp2
        refine wp_region_flow (Keep [] wr) rfl (by kernel_rfl) (Keep.refl _ _).drew ?_
        repeat (first | (refine fl_off (by rfl) ?_; simp only [Act.put, List.setIfInBounds_toArray, List.set_cons_zero, List.set_cons_succ]) | (refine fl_val (v := ?_) (by rfl) ?_ ?_; rotate_left; (intro w' hS; obtain ⟨f1,f2,f3,f4,f5⟩ := hF2 w' hS; go_simp; with_reducible rfl); simp only [Act.put, List.setIfInBounds_toArray, List.set_cons_zero, List.set_cons_succ]))
        refine fl_nil ?_
        intro w' hS
        go_wp2
        go_roundw
        case rel => exact ⟨k + 1, by omega, by go_num, HS.out, hkeep.then hS⟩
        case measure => simp [intOf] <;> omega
      · have HS := Lib.hid (hst.out (by simp only [g1, g2]; rfl))
        go_wp2
        refine wp_region_flow (Keep [] wr) rfl (by kernel_rfl) (Keep.refl _ _).drew ?_
        repeat (first | (refine fl_off (by rfl) ?_; simp only [Act.put, List.setIfInBounds_toArray, List.set_cons_zero, List.set_cons_succ]) | (refine fl_val (v := ?_) (by rfl) ?_ ?_; rotate_left; (intro w' hS; obtain ⟨f1,f2,f3,f4,f5⟩ := hF2 w' hS; go_simp; with_reducible rfl); simp only [Act.put, List.setIfInBounds_toArray, List.set_cons_zero, List.set_cons_succ]))
        refine fl_nil ?_
        intro w' hS
        go_wp2
        go_roundw
        case rel => exact ⟨k + 1, by omega, by go_num, HS.out, hkeep.then hS⟩
        case measure => simp [intOf] <;> omega
      · have HR : Hid (r = false) := by show _ = _; rw [HOK2.out, hbd.out (by simp only [g1, g2]; rfl)]; rfl
        go_wp2
        refine wp_region_flow (Keep [] wr) rfl (by kernel_rfl) (Keep.refl _ _).drew ?_
        repeat (first | (refine fl_off (by rfl) ?_; simp only [Act.put, List.setIfInBounds_toArray, List.set_cons_zero, List.set_cons_succ]) | (refine fl_val (v := ?_) (by rfl) ?_ ?_; rotate_left; (intro w' hS; obtain ⟨f1,f2,f3,f4,f5⟩ := hF2 w' hS; go_simp; with_reducible rfl); simp only [Act.put, List.setIfInBounds_toArray, List.set_cons_zero, List.set_cons_succ]))
        refine fl_nil ?_
        intro w' hS
        go_wp2
        go_ret
        exact ⟨by rw [HR.out]; rfl, KW.then hS⟩
      -- END 2
    · obtain rfl : k = i := by omega
      have HOK3 : Hid (r = (mapsOk n1 n2 0 [] mp && offsOk pr s1 s2 0 ofs)) := by show _ = _; rw [HOK2.out, hall]; simp only [Bool.true_and]
      clear hall HOK2 hrow
      have KW := hk3.trans hkeep (by simp)
      have B5 := hb2.keep0 hkeep
      have BI3 := BI.keep0 hkeep
      obtain ⟨f1, f2, f3, f4, f5⟩ := hF.out wr hkeep
      have m10 := (KW.cell (p := ⟨bm, om + fk * 2, none⟩) hbm (by simp)).trans (m1 0 _ rfl)
      have m11 := (KW.cell (p := ⟨bm, om + fk * 2 + 1, none⟩) hbm (by simp)).trans (m1 1 _ rfl)
      have m20 := (KW.cell (p := ⟨bm, om + tk * 2, none⟩) hbm (by simp)).trans (m2 0 _ rfl)
      have m21 := (KW.cell (p := ⟨bm, om + tk * 2 + 1, none⟩) hbm (by simp)).trans (m2 1 _ rfl)
      clear m1 m2 hb2 BI
      have i0 : (0 : Int) ≤ (fk : Int) := by omega
      have i1 : (0 : Int) ≤ (tk : Int) := by omega
      go_wp2
      have hG : Hid (∀ w', Keep [] wr w' → w'.cell? ⟨w.heap.size + 1, 0, none⟩ = some (.int .i64 fk) ∧ w'.cell? ⟨w.heap.size + 1, 1, none⟩ = some (.int .i64 tk) ∧ w'.cell? ⟨w.heap.size, 2, none⟩ = some (.slice (some ⟨bm, om, none⟩) x.modes.length v.mc) ∧
          w'.cell? ⟨bm, om + fk * 2, none⟩ = some (.int .u32 s1) ∧ w'.cell? ⟨bm, om + fk * 2 + 1, none⟩ = some (.slice A1 n1 c1) ∧ w'.cell? ⟨bm, om + tk * 2, none⟩ = some (.int .u32 s2) ∧ w'.cell? ⟨bm, om + tk * 2 + 1, none⟩ = some (.slice A2 n2 c2')) := fun w' hw => by
        obtain ⟨f1, f2, f3, f4, f5⟩ := hF.out w' (hkeep.then hw)
        have hb2 := Nat.lt_of_lt_of_le hbm KW.size
        exact ⟨f1, f2, f4, (hw.cell (p := ⟨bm, om + fk * 2, none⟩) hb2 (by simp)).trans m10, (hw.cell (p := ⟨bm, om + fk * 2 + 1, none⟩) hb2 (by simp)).trans m11, (hw.cell (p := ⟨bm, om + tk * 2, none⟩) hb2 (by simp)).trans m20, (hw.cell (p := ⟨bm, om + tk * 2 + 1, none⟩) hb2 (by simp)).trans m21⟩
      clear f1 f2 f3 f4 f5 m10 m11 m20 m21
      go_upto_region 9 with fail
      go_cut [7, 8] (fun p7 p8 wx => TwoModes wr s1 s2 A1 A2 n1 n2 c1 c2' p7 p8 wx)
      case first =>
        refine wp_region_held_drew (S := Keep [] wr) (by kernel_rfl) (Keep.refl _ _).drew (fun hS => ?_)
        (refine ah_take (v := ?_) 0 rfl (by kernel_rfl) (by kernel_rfl) (by kernel_rfl) (fun _ _ _ h => h) ?_ hS ?_; rotate_left; (intro w' hSw; obtain ⟨f1,f2,f3,f4,f5,f6,f7⟩ := hG.out w' hSw; go_simp; with_reducible rfl); simp only [Act.put, List.setIfInBounds_toArray, List.set_cons_zero, List.set_cons_succ])
        (refine ah_take (v := ?_) 1 rfl (by kernel_rfl) (by kernel_rfl) (by kernel_rfl) (fun _ _ _ h => h) ?_ hS ?_; rotate_left; (intro w' hSw; obtain ⟨f1,f2,f3,f4,f5,f6,f7⟩ := hG.out w' hSw; go_simp; with_reducible rfl); simp only [Act.put, List.setIfInBounds_toArray, List.set_cons_zero, List.set_cons_succ])
        (refine ah_take (v := ?_) 2 rfl (by kernel_rfl) (by kernel_rfl) (by kernel_rfl) (fun _ _ _ h => h) ?_ hS ?_; rotate_left; (intro w' hSw; obtain ⟨f1,f2,f3,f4,f5,f6,f7⟩ := hG.out w' hSw; go_simp; with_reducible rfl); simp only [Act.put, List.setIfInBounds_toArray, List.set_cons_zero, List.set_cons_succ])
        (refine ah_take (v := ?_) 3 rfl (by kernel_rfl) (by kernel_rfl) (by kernel_rfl) (fun _ _ _ h => h) ?_ hS ?_; rotate_left; (intro w' hSw; obtain ⟨f1,f2,f3,f4,f5,f6,f7⟩ := hG.out w' hSw; go_simp; with_reducible rfl); simp only [Act.put, List.setIfInBounds_toArray, List.set_cons_zero, List.set_cons_succ])
        (refine ah_take (v := ?_) 4 rfl (by kernel_rfl) (by kernel_rfl) (by kernel_rfl) (fun _ _ _ h => h) ?_ hS ?_; rotate_left; (intro w' hSw; obtain ⟨f1,f2,f3,f4,f5,f6,f7⟩ := hG.out w' hSw; go_simp; with_reducible rfl); simp only [Act.put, List.setIfInBounds_toArray, List.set_cons_zero, List.set_cons_succ])
        (refine ah_take (v := ?_) 5 rfl (by kernel_rfl) (by kernel_rfl) (by kernel_rfl) (fun _ _ _ h => h) ?_ hS ?_; rotate_left; (intro w' hSw; obtain ⟨f1,f2,f3,f4,f5,f6,f7⟩ := hG.out w' hSw; go_simp; with_reducible rfl); simp only [Act.put, List.setIfInBounds_toArray, List.set_cons_zero, List.set_cons_succ])
        (refine ah_take (v := ?_) 6 rfl (by kernel_rfl) (by kernel_rfl) (by kernel_rfl) (fun _ _ _ h => h) ?_ hS ?_; rotate_left; (intro w' hSw; obtain ⟨f1,f2,f3,f4,f5,f6,f7⟩ := hG.out w' hSw; go_simp; with_reducible rfl); simp only [Act.put, List.setIfInBounds_toArray, List.set_cons_zero, List.set_cons_succ])
        (refine ah_take (v := ?_) 7 rfl (by kernel_rfl) (by kernel_rfl) (by kernel_rfl) (fun _ _ _ h => h) ?_ hS ?_; rotate_left; (intro w' hSw; obtain ⟨f1,f2,f3,f4,f5,f6,f7⟩ := hG.out w' hSw; go_simp; with_reducible rfl); simp only [Act.put, List.setIfInBounds_toArray, List.set_cons_zero, List.set_cons_succ])
        (refine ah_take (v := ?_) 8 rfl (by kernel_rfl) (by kernel_rfl) (by kernel_rfl) (fun _ _ _ h => h) ?_ hS ?_; rotate_left; (intro w' hSw; obtain ⟨f1,f2,f3,f4,f5,f6,f7⟩ := hG.out w' hSw; go_simp; with_reducible rfl); simp only [Act.put, List.setIfInBounds_toArray, List.set_cons_zero, List.set_cons_succ])
        (refine ah_take (v := ?_) 9 rfl (by kernel_rfl) (by kernel_rfl) (by kernel_rfl) (fun _ _ _ h => h) ?_ hS ?_; rotate_left; (intro w' hSw; obtain ⟨f1,f2,f3,f4,f5,f6,f7⟩ := hG.out w' hSw; go_simp; with_reducible rfl); simp only [Act.put, List.setIfInBounds_toArray, List.set_cons_zero, List.set_cons_succ])
        (refine ah_take (v := ?_) 10 rfl (by kernel_rfl) (by kernel_rfl) (by kernel_rfl) (fun _ _ _ h => h) ?_ hS ?_; rotate_left; (intro w' hSw; obtain ⟨f1,f2,f3,f4,f5,f6,f7⟩ := hG.out w' hSw; go_simp; with_reducible rfl); simp only [Act.put, List.setIfInBounds_toArray, List.set_cons_zero, List.set_cons_succ])
        (refine ah_take (v := ?_) 11 rfl (by kernel_rfl) (by kernel_rfl) (by kernel_rfl) (fun _ _ _ h => h) ?_ hS ?_; rotate_left; (intro w' hSw; obtain ⟨f1,f2,f3,f4,f5,f6,f7⟩ := hG.out w' hSw; go_simp; with_reducible rfl); simp only [Act.put, List.setIfInBounds_toArray, List.set_cons_zero, List.set_cons_succ])
        have hz1 : ∀ (u : Int) (A : Option Addr) (n c : Nat), ∀ y, y ∈ [Value.int .u32 u, .slice A n c] → y.oneCell' = true := by intro u A n c y hy; simp at hy; rcases hy with rfl | rfl <;> rfl
        have kA := (Keep.refl [] wr).drew.alloc (.cells #[.int .u32 0, .slice none 0 0] 47)
        have kB := kA.alloc (.cells #[.int .u32 0, .slice none 0 0] 47)
        have b7 := (Blk.new wr.drew 47 #[.int .u32 0, .slice none 0 0]).alloc (.cells #[.int .u32 0, .slice none 0 0] 47)
        have b8 := Blk.new1 wr.drew (.cells #[.int .u32 0, .slice none 0 0] 47) 47 #[.int .u32 0, .slice none 0 0]
        have hne : wr.drew.heap.size ≠ wr.drew.heap.size + 1 := by omega
        refine ah_two 12 13 (by kernel_rfl) ?_ ?_
        · refine oph_run (v := .pointer (some ⟨wr.heap.size, 0, none⟩)) (w' := wr.drew.alloc (.cells #[.int .u32 0, .slice none 0 0] 47)) 12 rfl (by go_simp) kA ?_
          (simp only [Act.put, List.setIfInBounds_toArray, List.set_cons_zero, List.set_cons_succ])
          refine ah_one 13 (by kernel_rfl) ?_
          refine oph_run (v := .pointer (some ⟨wr.heap.size + 1, 0, none⟩)) (w' := (wr.drew.alloc (.cells #[.int .u32 0, .slice none 0 0] 47)).alloc (.cells #[.int .u32 0, .slice none 0 0] 47)) 13 rfl (by go_simp) kB ?_
          (simp only [Act.put, List.setIfInBounds_toArray, List.set_cons_zero, List.set_cons_succ])
          refine ah_store (vs := [.int .u32 s1, .slice A1 n1 c1]) 14 rfl (by kernel_rfl) rfl rfl (by kernel_rfl) b7 (hz1 _ _ _ _) rfl ?_
          intro w5 d7 k5
          have kC := kB.trans k5 (fun y hy h => by simp at hy h; omega)
          refine ⟨kC, ?_⟩
          (simp only [Act.put])
          refine ah_store (vs := [.int .u32 s2, .slice A2 n2 c2']) 15 rfl (by kernel_rfl) rfl rfl (by kernel_rfl) (b8.keep k5 (by simp)) (hz1 _ _ _ _) rfl ?_
          intro w6 d8 k6
          have kD := kC.trans k6 (fun y hy h => by simp at hy h; omega)
          refine ⟨kD, wpAnyH_done (by kernel_rfl) ?_ _⟩
          have hfin : TwoModes wr s1 s2 A1 A2 n1 n2 c1 c2' (.pointer (some ⟨wr.heap.size, 0, none⟩)) (.pointer (some ⟨wr.heap.size + 1, 0, none⟩)) w6 := ⟨_, _, rfl, rfl, d7.keep k6 (by simp), d8, kD⟩
          have HFIN := Lib.hid hfin
          clear hfin d7 d8 k5 k6 kC kD kA kB b7 b8
          (simp only [Act.put])
          go_wp2_with fail
          go_meet
          exact HFIN.out
        · refine oph_run (v := .pointer (some ⟨wr.heap.size, 0, none⟩)) (w' := wr.drew.alloc (.cells #[.int .u32 0, .slice none 0 0] 47)) 13 rfl (by go_simp) kA ?_
          (simp only [Act.put, List.setIfInBounds_toArray, List.set_cons_zero, List.set_cons_succ])
          refine ah_one 12 (by kernel_rfl) ?_
          refine oph_run (v := .pointer (some ⟨wr.heap.size + 1, 0, none⟩)) (w' := (wr.drew.alloc (.cells #[.int .u32 0, .slice none 0 0] 47)).alloc (.cells #[.int .u32 0, .slice none 0 0] 47)) 12 rfl (by go_simp) kB ?_
          (simp only [Act.put, List.setIfInBounds_toArray, List.set_cons_zero, List.set_cons_succ])
          refine ah_store (vs := [.int .u32 s1, .slice A1 n1 c1]) 14 rfl (by kernel_rfl) rfl rfl (by kernel_rfl) b8 (hz1 _ _ _ _) rfl ?_
          intro w5 d7 k5
          have kC := kB.trans k5 (fun y hy h => by simp at hy h; omega)
          refine ⟨kC, ?_⟩
          (simp only [Act.put])
          refine ah_store (vs := [.int .u32 s2, .slice A2 n2 c2']) 15 rfl (by kernel_rfl) rfl rfl (by kernel_rfl) (b7.keep k5 (by simp)) (hz1 _ _ _ _) rfl ?_
          intro w6 d8 k6
          have kD := kC.trans k6 (fun y hy h => by simp at hy h; omega)
          refine ⟨kD, wpAnyH_done (by kernel_rfl) ?_ _⟩
          have hfin : TwoModes wr s1 s2 A1 A2 n1 n2 c1 c2' (.pointer (some ⟨wr.heap.size + 1, 0, none⟩)) (.pointer (some ⟨wr.heap.size, 0, none⟩)) w6 := ⟨_, _, rfl, rfl, d7.keep k6 (by simp), d8, kD⟩
          have HFIN := Lib.hid hfin
          clear hfin d7 d8 k5 k6 kC kD kA kB b7 b8
          (simp only [Act.put])
          go_wp2_with fail
          go_meet
          exact HFIN.out
      case rest =>
        obtain ⟨g7, g8, rfl, rfl, B7, B8, hkx⟩ := hcut
        clear hG
        have BE := B5.keep0 hkx
        have KX := KW.trans hkx (by simp)
        obtain ⟨f1, f2, f3, f4, f5⟩ := hF.out wc (hkeep.trans hkx (by simp))
        have hmc : Hid (∀ k (hk : k < mp.length), wc.cell? ⟨w.heap.size + 1, 19 + k, none⟩ = some (.int .i64 mp[k])) := fun k hk => BE.at_ (hmpA.out k hk)
        have hoc : Hid (∀ k (hk : k < ofs.length), wc.cell? ⟨w.heap.size + 1, 3 + k, none⟩ = some (.int .i64 ofs[k])) := fun k hk => BE.at_ (hofA.out k hk)
        have b71 := B7.at_ (l := [.int .u32 (s1 : Int), .slice A1 n1 c1]) (j := 1) rfl
        have b70 := B7.at_ (l := [.int .u32 (s1 : Int), .slice A1 n1 c1]) (j := 0) rfl
        have b81 := B8.at_ (l := [.int .u32 (s2 : Int), .slice A2 n2 c2']) (j := 1) rfl
        have b80 := B8.at_ (l := [.int .u32 (s2 : Int), .slice A2 n2 c2']) (j := 0) rfl
        clear hF hmpA hofA BE B5 BI3 B7 B8 hkx f1 f2 f4 f5
        go_wp2
        go_loopw [9] (fun vi wr => ∃ k : Nat, k ≤ 4 ∧ vi = .int .i64 k ∧ mapsOk n1 n2 0 [] (mp.take k) = true ∧ wc = wr) (fun vi _ => 4 - (intOf vi).toNat)
        case atStart => exact ⟨0, Nat.zero_le _, rfl, rfl, rfl⟩
        case round =>
          obtain ⟨k, hk, rfl, hm, rfl⟩ := hrel
          by_cases hlk : k < 4
          -- DEV 3
          · have hk' : k < mp.length := by rw [hmm.out]; exact hlk
            have hck := hmc.out k hk'
            have hst := Lib.hid (mapsOk_step hk' hm)
            have hbd := Lib.hid (@mapsOk_bad n1 n2 mp (k + 1))
            have hsm := Lib.hid (seenOf_mem (mp.take k) mp[k])
            clear hm
            generalize hn : mp[k] = n at *
            clear hn
            -- the last test of this round: is it another one's?
            by_cases h0 : n = 0
            · have g5 : (n != 0) = false := by simp [h0]
              have g6 : inR n 0 n2 = true := by rw [h0]; simp [inR]
              have HS : Hid (mapsOk n1 n2 0 [] (mp.take (k + 1)) = true) := by show _ = _; rw [hst.out, h0]; simp [inR]
              clear h0
              go_wp2_with (refine (in10_any _ _ _ _).mono ?_; rintro e w' ⟨rfl, rfl⟩)
              go_loopw [11] (fun vi wr => ∃ j : Nat, j ≤ k ∧ vi = .int .i64 j ∧ wc = wr) (fun vi _ => k - (intOf vi).toNat)
              case atStart => exact ⟨0, Nat.zero_le _, rfl, rfl⟩
              case round =>
                obtain ⟨j, hj, rfl, rfl⟩ := hrel
                by_cases hlj : j < k
                · go_wp2
                  go_roundw
                  case rel => exact ⟨j + 1, by omega, by go_num, by trivial⟩
                  case measure => simp [intOf] <;> omega
                · go_wp2
                  go_roundw
                  case rel => exact ⟨k + 1, by omega, by go_num, HS.out, by trivial⟩
                  case measure => simp [intOf] <;> omega
            · have g5 : (n != 0) = true := by simp [h0]
              have g7 : (n == 0) = false := by simp [h0]
              cases g6 : inR n 0 n2
              · have HR : Hid (r = false) := by show _ = _; rw [HOK3.out, hbd.out (by rw [hst.out, g6]; rfl)]; rfl
                clear h0
                go_wp2_with (refine (in10_any _ _ _ _).mono ?_; rintro e w' ⟨rfl, rfl⟩)
                go_ret
                exact ⟨by rw [HR.out]; rfl, KX⟩
              · rcases Nat.lt_or_ge k n1 with g8 | g8
                · have hst2 : Hid (mapsOk n1 n2 0 [] (mp.take (k + 1)) = !(mp.take k).contains n) := by show _ = _; rw [hst.out, hsm.out, g6, g7]; simp [g8, h0]
                  clear h0 hst
                  go_wp2_with (refine (in10_any _ _ _ _).mono ?_; rintro e w' ⟨rfl, rfl⟩)
                  go_loopw [11] (fun vi wr => ∃ j : Nat, j ≤ k ∧ vi = .int .i64 j ∧ (mp.take j).contains n = false ∧ wc = wr) (fun vi _ => k - (intOf vi).toNat)
                  case atStart => exact ⟨0, Nat.zero_le _, rfl, rfl, rfl⟩
                  case round =>
                    obtain ⟨j, hj, rfl, hno, rfl⟩ := hrel
                    by_cases hlj : j < k
                    · have hj' : j < mp.length := by omega
                      have hcj := hmc.out j hj'
                      have hstep : Hid ((mp.take (j + 1)).contains n = (mp[j] == n)) := by
                        show _ = _
                        rw [List.take_succ_eq_append_getElem hj', List.contains_append, hno, Bool.false_or, List.contains_cons, List.contains_nil, Bool.or_false, Bool.eq_iff_iff]
                        simp only [beq_iff_eq]
                        exact ⟨Eq.symm, Eq.symm⟩
                      have hmem : Hid ((mp[j] == n) = true → (mp.take k).contains n = true) := fun he => by
                        rw [List.contains_iff_mem]
                        have : mp[j] = n := by simpa using he
                        rw [← this, ← List.getElem_take (j := k) (h := by rw [List.length_take]; omega)]
                        exact List.getElem_mem _
                      clear hno
                      generalize mp[j] = nj at *
                      cases he : (nj == n)
                      · have HS : Hid ((mp.take (j + 1)).contains n = false) := by show _ = _; rw [hstep.out, he]
                        go_wp2
                        go_roundw
                        case rel => exact ⟨j + 1, by omega, by go_num, HS.out, by trivial⟩
                        case measure => simp [intOf] <;> omega
                      · have HR : Hid (r = false) := by show _ = _; rw [HOK3.out, hbd.out (by rw [hst2.out, hmem.out he]; rfl)]; rfl
                        go_wp2
                        go_ret
                        exact ⟨by rw [HR.out]; rfl, KX⟩
                    · obtain rfl : j = k := by omega
                      have HS : Hid (mapsOk n1 n2 0 [] (mp.take (j + 1)) = true) := by show _ = _; rw [hst2.out, hno]; rfl
                      clear hno
                      go_wp2
                      go_roundw
                      case rel => exact ⟨j + 1, by omega, by go_num, HS.out, by trivial⟩
                      case measure => simp [intOf] <;> omega
                · have HR : Hid (r = false) := by show _ = _; rw [HOK3.out, hbd.out (by rw [hst.out, g6, g7]; simp; omega)]; rfl
                  clear h0
                  go_wp2_with (refine (in10_any _ _ _ _).mono ?_; rintro e w' ⟨rfl, rfl⟩)
                  go_ret
                  exact ⟨by rw [HR.out]; rfl, KX⟩
          -- END 3
          · obtain rfl : k = 4 := by omega
            have HOK4 : Hid (r = offsOk pr s1 s2 0 ofs) := by
              show _ = _
              rw [List.take_of_length_le (by rw [hmm.out]; exact Nat.le_refl _)] at hm
              rw [HOK3.out, hm, Bool.true_and]
            have HOK5 : Hid (r = offsF pr (minusN s2 s1) 0 ofs) := by show _ = _; rw [HOK4.out, offsF_eq pr s1 s2 hs1 hs2]
            have htb := Lib.hid (fun k => minusN_testBit s2 s1 k hs2 hs1)
            clear HOK3 HOK4 hm hmc
            generalize minusN s2 s1 = fq at *
            go_wp2
            go_loopg [12] 16 (fun gk vi wr => ∃ k : Nat, k + gk = 16 ∧ vi = .int .i64 k ∧ offsF pr fq 0 (ofs.take k) = true ∧ wc = wr)
            case atStart => exact ⟨0, rfl, rfl, rfl, rfl⟩
            case round =>
              obtain ⟨k, hk, rfl, hm, rfl⟩ := hrel
              by_cases hlk : k < 16
              · have hk' : k < ofs.length := by rw [hmo.out]; exact hlk
                have hck := hoc.out k hk'
                have hst := Lib.hid (offsF_step (prot := pr) (fr := fq) hk' hm)
                have hbd := Lib.hid (@offsF_bad pr fq ofs (k + 1))
                have hb2 : Hid (has10 s2 (k : Int) = s2.testBit k) := by show _ = _; unfold has10; rw [Int.toNat_natCast]; simp; omega
                have hb1 : Hid (has10 s1 (k : Int) = s1.testBit k) := by show _ = _; unfold has10; rw [Int.toNat_natCast]; simp; omega
                have hf := Lib.hid (htb.out k)
                clear hm
                generalize ofs[k] = n at *
                generalize fq.testBit k = fb at *
                generalize s1.testBit k = t1 at *
                generalize s2.testBit k = t2 at *
                have hd3 : Hid (decide (pr = 3) = (pr == 3)) := by show _ = _; rw [Bool.eq_iff_iff]; simp
                have hf3 : ∃ ff : Bool, ff = ((pr == 3) && fb) := ⟨_, rfl⟩
                obtain ⟨ff, hff⟩ := hf3
                have hst2 : Hid (offsF pr fq 0 (ofs.take (k + 1)) = (inR n 0 16384 && (n == 0 || ff))) := by show _ = _; rw [hst.out, hd3.out, hff]
                have hcase : (ff = false ∧ (pr == 3) = true ∧ t2 = false) ∨ (ff = false ∧ (pr == 3) = true ∧ t2 = true ∧ t1 = true) ∨ (ff = true ∧ (pr == 3) = true ∧ t2 = true ∧ t1 = false) ∨ (ff = false ∧ (pr == 3) = false) := by
                  rw [hff, hf.out]
                  cases (pr == 3) <;> cases t1 <;> cases t2 <;> simp
                clear hff hst
                go_upto_region 24 with fail
                go_cut [13] (fun p13 wx => p13 = .bool ff ∧ wc = wx)
                case first =>
                  clear hck hst2 hbd hf hd3 htb
                  rcases hcase with ⟨rfl, g1, rfl⟩ | ⟨rfl, g1, rfl, rfl⟩ | ⟨rfl, g1, rfl, rfl⟩ | ⟨rfl, g1⟩
                  · go_wp2_with fail
                    refine (has10_any s2 _ _ hs2).mono ?_
                    rintro e w' ⟨rfl, rfl⟩
                    rw [hb2.out]
                    go_wp2_with fail
                    go_meet
                    exact ⟨rfl, rfl⟩
                  · go_wp2_with fail
                    refine (has10_any s2 _ _ hs2).mono ?_
                    rintro e w' ⟨rfl, rfl⟩
                    rw [hb2.out]
                    go_wp2_with fail
                    refine (has10_any s1 _ _ hs1).mono ?_
                    rintro e w' ⟨rfl, rfl⟩
                    rw [hb1.out]
                    go_wp2_with fail
                    go_meet
                    exact ⟨rfl, rfl⟩
                  · go_wp2_with fail
                    refine (has10_any s2 _ _ hs2).mono ?_
                    rintro e w' ⟨rfl, rfl⟩
                    rw [hb2.out]
                    go_wp2_with fail
                    refine (has10_any s1 _ _ hs1).mono ?_
                    rintro e w' ⟨rfl, rfl⟩
                    rw [hb1.out]
                    go_wp2_with fail
                    go_meet
                    exact ⟨rfl, rfl⟩
                  · go_wp2_with fail
                    go_meet
                    exact ⟨rfl, rfl⟩
                case rest =>
                  obtain ⟨rfl, rfl⟩ := hcut
                  clear hcase hf hd3 htb hb1 hb2 b70 b71 b80 b81
                  cases g6 : inR n 0 16384
                  · have HR : Hid (r = false) := by show _ = _; rw [HOK5.out, hbd.out (by rw [hst2.out, g6]; rfl)]
                    go_wp2_with fail
                    refine (in10_any _ _ _ _).mono ?_
                    rintro e w' ⟨rfl, rfl⟩
                    go_wp2
                    go_ret
                    exact ⟨by rw [HR.out]; rfl, KX⟩
                  · cases g7 : (n == 0)
                    · have g8 : (n != 0) = true := by simpa using g7
                      cases ff
                      · have HR : Hid (r = false) := by show _ = _; rw [HOK5.out, hbd.out (by rw [hst2.out, g6, g7]; rfl)]
                        go_wp2_with fail
                        refine (in10_any _ _ _ _).mono ?_
                        rintro e w' ⟨rfl, rfl⟩
                        go_wp2
                        go_ret
                        exact ⟨by rw [HR.out]; rfl, KX⟩
                      · have HS : Hid (offsF pr fq 0 (ofs.take (k + 1)) = true) := by show _ = _; rw [hst2.out, g6, g7]; rfl
                        go_wp2_with fail
                        refine (in10_any _ _ _ _).mono ?_
                        rintro e w' ⟨rfl, rfl⟩
                        go_wp2
                        go_roundg (gk - 1)
                        case rel => exact ⟨k + 1, by omega, by go_num, HS.out, rfl⟩
                        case measure => omega
                    · have g8 : (n != 0) = false := by simpa using g7
                      have HS : Hid (offsF pr fq 0 (ofs.take (k + 1)) = true) := by show _ = _; rw [hst2.out, g6, g7]; rfl
                      go_wp2_with fail
                      refine (in10_any _ _ _ _).mono ?_
                      rintro e w' ⟨rfl, rfl⟩
                      go_wp2
                      go_roundg (gk - 1)
                      case rel => exact ⟨k + 1, by omega, by go_num, HS.out, rfl⟩
                      case measure => omega
              · obtain rfl : k = 16 := by omega
                have HR : Hid (r = true) := by
                  show _ = _
                  rw [List.take_of_length_le (by rw [hmo.out]; exact Nat.le_refl _)] at hm
                  rw [HOK5.out, hm]
                clear hm
                go_wp2
                go_ret
                exact ⟨by rw [HR.out]; rfl, KX⟩
end Go.Proofs.YtfgjcjpemlgnmaaDoor

namespace Go.Proofs.YtfgjcjpemlgnmaaDoor
open Go.RowKit

theorem allSet_add (k : Nat) (hk : k < 32) : ((allSet k : Int) + 2 ^ k % 4294967296) % 4294967296 = ((allSet (k + 1) : Nat) : Int) := by
  have h1 : allSet (k + 1) < 4294967296 := allSet_lt (by omega)
  have h2 := allSet_succ k
  rw [pow_mod32 hk]
  omega

set_option maxRecDepth 100000 in
set_option maxHeartbeats 3000000 in
theorem great_any (v : ImgV) (x : Img) (w : World) (h : ImgAt w v x) :
    Calls Tryd.prog 6 #[.agg (imgCells v x).toArray] w fun e w' => e = .returned (.bool (greatImg x)) ∧ Keep [] w w' := by
  have hlt := h.lt
  have hlm := h.lm
  have hle := h.le
  unfold maxLen at hlt hlm hle
  have hb := img_box w v x
  have K0 := (Keep.refl [] w).alloc (.cells (imgCells v x).toArray 26)
  have hmd := h.mode
  have c1 := img_c1 hb
  have c2 := img_c2 hb
  have c3 := img_c3 hb
  have hlq := Lib.hid h.lq
  clear h hb
  have HG : Hid (greatImg x = (decide (40 < x.tasks.length) || decide (20 < x.modes.length) || decide (60 < x.edges.length) || x.modes.any (fun m => decide (20 < m.qs.length)))) := show _ = _ from rfl
  generalize (imgCells v x).toArray = cs at *
  generalize greatImg x = gr at *
  have hc : (40 < x.tasks.length) ∨ (x.tasks.length ≤ 40 ∧ 20 < x.modes.length) ∨ (x.tasks.length ≤ 40 ∧ x.modes.length ≤ 20 ∧ 60 < x.edges.length) ∨ (x.tasks.length ≤ 40 ∧ x.modes.length ≤ 20 ∧ x.edges.length ≤ 60) := by omega
  rcases hc with g1 | ⟨g1, g2⟩ | ⟨g1, g2, g3⟩ | ⟨g1, g2, g3⟩
  iterate 3
    · have HF : Hid (gr = true) := by show _ = _; rw [HG.out]; simp <;> omega
      clear HG hmd hlq
      generalize x.tasks.length = nt at *
      generalize x.modes.length = nm at *
      generalize x.edges.length = ne at *
      go_enter Tryd.func6, Tryd.ntmps6
      go_wp2
      go_ret
      exact ⟨by rw [HF.out]; rfl, K0⟩
  have HF : Hid (gr = x.modes.any (fun m => decide (20 < m.qs.length))) := by
    show _ = _; rw [HG.out]
    have e1 : decide (40 < x.tasks.length) = false := by simp; omega
    have e2 : decide (20 < x.modes.length) = false := by simp; omega
    have e3 : decide (60 < x.edges.length) = false := by simp; omega
    rw [e1, e2, e3]; simp
  clear HG
  go_enter Tryd.func6, Tryd.ntmps6
  go_wp2
  go_loopw [3] (fun vi wr => ∃ k : Nat, k ≤ x.modes.length ∧ vi = .int .i64 k ∧ (x.modes.take k).any (fun m => decide (20 < m.qs.length)) = false ∧ w.alloc (.cells cs 26) = wr) (fun vi _ => x.modes.length - (intOf vi).toNat)
  case atStart => exact ⟨0, Nat.zero_le _, rfl, rfl, rfl⟩
  case round =>
    obtain ⟨k, hk, rfl, hno, rfl⟩ := hrel
    by_cases hlk : k < x.modes.length
    · obtain ⟨b, o, hA, hbl, hms⟩ := hmd (by omega)
      obtain ⟨A, c, hc, _⟩ := hms k hlk
      have q1 := (K0.cell (p := ⟨b, o + k * 2 + 1, none⟩) hbl (by simp)).trans (hc 1 _ rfl)
      have hst : Hid ((x.modes.take (k + 1)).any (fun m => decide (20 < m.qs.length)) = decide (20 < x.modes[k].qs.length)) := by
        show _ = _; rw [List.take_succ_eq_append_getElem hlk, List.any_append, hno]; simp
      have hbd : Hid (20 < x.modes[k].qs.length → x.modes.any (fun m => decide (20 < m.qs.length)) = true) := fun hh =>
        List.any_eq_true.2 ⟨x.modes[k], List.getElem_mem hlk, by simpa using hh⟩
      have hql := hlq.out _ (List.getElem_mem hlk)
      unfold maxLen at hql
      clear hno hms hc hmd
      rw [hA] at c2
      generalize x.modes[k].qs.length = nq at *
      rcases Nat.lt_or_ge 20 nq with g | g
      · have HR := Lib.hid (hbd.out g)
        go_wp2
        go_ret
        exact ⟨by rw [HF.out, HR.out]; rfl, K0⟩
      · have HS : Hid ((x.modes.take (k + 1)).any (fun m => decide (20 < m.qs.length)) = false) := by show _ = _; rw [hst.out]; simp; omega
        go_wp2
        go_roundw
        case rel => exact ⟨k + 1, by omega, by go_num, HS.out, by trivial⟩
        case measure => simp [intOf] <;> omega
    · have HA : Hid (x.modes.any (fun m => decide (20 < m.qs.length)) = false) := by show _ = _; rwa [List.take_of_length_le (by omega)] at hno
      clear hno hmd
      go_wp2
      go_ret
      exact ⟨by rw [HF.out, HA.out]; rfl, K0⟩

set_option maxRecDepth 100000 in
set_option maxHeartbeats 3000000 in
theorem rcheck_any (v : ImgV) (x : Img) (w : World) (h : ImgAt w v x) :
    Calls Tryd.prog 8 #[.agg (imgCells v x).toArray] w fun e w' => e = .returned (chkRes (chkImg x)) ∧ Keep [] w w' := by
  have hlt := h.lt
  have hlm := h.lm
  have hle := h.le
  have hlq := Lib.hid h.lq
  unfold maxLen at hlt hlm hle
  have hb := img_box w v x
  have K0 := (Keep.refl [] w).alloc (.cells (imgCells v x).toArray 26)
  have hof := Lib.hid h.ok
  have htk := h.task
  have hmd := h.mode
  have HIL : Hid ((imgCells v x).length = 4) := show _ = _ from rfl
  have HEd := fun i W hk hi hn => Lib.hid (redge_any v x i W (h.keep0 hk) hi hn)
  have hc := fun {W : World} (hW : Blk W w.heap.size 26 (imgCells v x).toArray) => And.intro (img_c0 hW) (And.intro (img_c1 hW) (And.intro (img_c2 hW) (img_c3 hW)))
  obtain ⟨c0, c1, c2, c3⟩ := hc hb
  clear h
  generalize imgCells v x = il at *
  by_cases hr : inR x.res 0 8 = false
  · have HR : Hid (chkRes (chkImg x) = .tuple #[.int .i64 0, .int .i64 103]) := by show _ = _; rw [chk1 hr]; rfl
    generalize x.res = rs at *
    go_enter Tryd.func8, Tryd.ntmps8
    go_wp2_with (refine (in10_any _ _ _ _).mono ?_; rintro e w' ⟨rfl, rfl⟩)
    go_ret2
    exact ⟨by rw [HR.out]; rfl, K0⟩
  have hr : inR x.res 0 8 = true := by simpa using hr
  by_cases ht : inR x.tasks.length 1 16 = false
  · have HR : Hid (chkRes (chkImg x) = .tuple #[.int .i64 x.tasks.length, .int .i64 100]) := by show _ = _; rw [chk2 hr ht]; rfl
    clear htk
    generalize x.res = rs at *
    generalize x.tasks.length = n at *
    go_enter Tryd.func8, Tryd.ntmps8
    go_wp2_with (refine (in10_any _ _ _ _).mono ?_; rintro e w' ⟨rfl, rfl⟩)
    go_ret2
    exact ⟨by rw [HR.out]; rfl, K0⟩
  have ht : inR x.tasks.length 1 16 = true := by simpa using ht
  have g3 : 1 ≤ x.tasks.length ∧ x.tasks.length ≤ 16 := by have := ht; unfold inR at this; simp at this; omega
  obtain ⟨g3, g4⟩ := g3
  have HC3 := Lib.hid (fun k h3 => chk3 (x := x) (k := k) hr ht h3)
  have HC4 := Lib.hid (chk4 (x := x) hr ht)
  have HC5 := Lib.hid (fun h3 h4 k e => chk5 (x := x) (k := k) (e := e) hr ht h3 h4)
  have HC6 := Lib.hid (chk6 (x := x) hr ht)
  have HC7 := Lib.hid (fun h3 h4 h5 h6 k => chk7 (x := x) (k := k) hr ht h3 h4 h5 h6)
  have HC8 := Lib.hid (chk8 (x := x) hr ht)
  obtain ⟨bt, ot, hTA, hbt, hts⟩ := htk (by omega)
  rw [hTA] at c1
  have hc1 : Hid (∀ {W : World}, Blk W w.heap.size 26 il.toArray → W.cell? ⟨w.heap.size, 0, none⟩ = some (.int .i64 x.res) ∧ W.cell? ⟨w.heap.size, 1, none⟩ = some (.slice (some ⟨bt, ot, none⟩) x.tasks.length v.tc) ∧
      W.cell? ⟨w.heap.size, 2, none⟩ = some (.slice v.ma x.modes.length v.mc) ∧ W.cell? ⟨w.heap.size, 3, none⟩ = some (.slice v.ea x.edges.length v.ec)) := fun hW => by have := hc hW; rw [hTA] at this; exact this
  clear hc
  go_enter Tryd.func8, Tryd.ntmps8
  go_wp2_with (refine (in10_any _ _ _ _).mono ?_; rintro e w' ⟨rfl, rfl⟩)
  clear hr ht
  go_loopw [4, 5] (fun sv vi wr => ∃ k : Nat, k ≤ x.tasks.length ∧ vi = .int .i64 k ∧ sv = .int .u32 (allSet k : Int) ∧ firstBad (fun _ t => tskOk t x.res) 0 (x.tasks.take k) = none ∧ Blk wr w.heap.size 26 il.toArray ∧ Keep [] w wr) (fun _ vi _ => x.tasks.length - (intOf vi).toNat)
  case atStart => exact ⟨0, Nat.zero_le _, rfl, rfl, rfl, hb, K0⟩
  case round =>
    clear hb K0 c0 c1 c2 c3
    obtain ⟨k, hk, rfl, rfl, hfb, hbi, hkeep⟩ := hrel
    obtain ⟨c0, c1, c2, c3⟩ := hc1.out hbi
    by_cases hlk : k < x.tasks.length
    · have hce := (hts k hlk).keep0 hkeep hbt
      have hlon : x.tasks[k].lon.length = 8 := hof.out.lon _ (List.getElem_mem hlk)
      have HL : Hid ((tskCells x.tasks[k]).length = 11) := show _ = _ from tskCells_len hlon
      have hok := Lib.hid (firstBad_step (fun _ t => tskOk t x.res) hlk hfb)
      have hbd := Lib.hid (firstBad_at (fun _ t => tskOk t x.res) hlk hfb)
      have HT := fun W => Lib.hid (rtask_any x.tasks[k] x.res W hlon)
      have hadd := Lib.hid (allSet_add k (by omega))
      clear hfb hts hlon
      generalize x.tasks[k] = t at *
      generalize tskCells t = tc at *
      generalize tskOk t x.res = ok at *
      have hbt2 := Nat.lt_of_lt_of_le hbt hkeep.size
      have k0 : (0 : Int) ≤ (k : Int) := by omega
      have k1 : (k : Int) < x.tasks.length := by omega
      have hF : ∀ w', Keep [] wr w' → w'.cell? ⟨w.heap.size, 0, none⟩ = some (.int .i64 x.res) ∧ w'.cell? ⟨w.heap.size, 1, none⟩ = some (.slice (some ⟨bt, ot, none⟩) x.tasks.length v.tc) := fun w' hw =>
        ⟨(hw.cell (p := ⟨w.heap.size, 0, none⟩) hbi.lt (by simp)).trans c0, (hw.cell (p := ⟨w.heap.size, 1, none⟩) hbi.lt (by simp)).trans c1⟩
      have hce' : Hid (∀ w', Keep [] wr w' → CellsAt w' bt (ot + k * 11) tc) := fun w' hw => hce.keep0 hw hbt2
      clear hce
      go_wp2
      refine wp_region_flow (Keep [] wr) rfl (by kernel_rfl) (Keep.refl _ _).drew ?_
      repeat (refine fl_val (v := ?_) (by rfl) ?_ ?_; rotate_left; (intro w' hS; obtain ⟨f1,f2⟩ := hF w' hS; go_simp; with_reducible rfl); simp only [Act.put, List.setIfInBounds_toArray, List.set_cons_zero, List.set_cons_succ])
      refine fl_agg 57 (.tmp 30) tc rfl rfl rfl (by rw [HL.out]; exact agg_task) (fun w' hw => hce'.out w' hw) ?_
      simp only [Act.put, List.setIfInBounds_toArray, List.set_cons_zero, List.set_cons_succ]
      repeat (refine fl_val (v := ?_) (by rfl) ?_ ?_; rotate_left; (intro w' hS; obtain ⟨f1,f2⟩ := hF w' hS; go_simp; with_reducible rfl); simp only [Act.put, List.setIfInBounds_toArray, List.set_cons_zero, List.set_cons_succ])
      refine fl_call (f := 18) (v := .bool ok) (by rfl) rfl (by simp only [List.map_toArray, List.map_cons, List.map_nil]; rfl) Tryd.func18 (by kernel_rfl) (by kernel_rfl) (fun w' hS => ((HT w').out.mono (fun e w'' h => ⟨h.1, hS.then h.2⟩))) ?_; simp only [Act.put, List.setIfInBounds_toArray, List.set_cons_zero, List.set_cons_succ]
      repeat (refine fl_val (v := ?_) (by rfl) ?_ ?_; rotate_left; (intro w' hS; obtain ⟨f1,f2⟩ := hF w' hS; go_simp; with_reducible rfl); simp only [Act.put, List.setIfInBounds_toArray, List.set_cons_zero, List.set_cons_succ])
      refine fl_nil ?_
      intro w4 hS
      have hk4 := hkeep.then hS
      have hbi3 := hbi.keep0 hS
      clear c0 c1 c2 c3
      cases ok
      · have HR := Lib.hid (HC3.out k (hbd.out rfl))
        go_wp2
        go_ret2
        exact ⟨by rw [HR.out]; rfl, hk4⟩
      · have HS := Lib.hid (hok.out rfl)
        go_wp2
        go_roundw
        case rel => exact ⟨k + 1, by omega, by go_num, by rw [← hadd.out], HS.out, hbi3, hk4⟩
        case measure => simp [intOf] <;> omega
    · have h3 := firstBad_all (fun _ t => tskOk t x.res) (by omega) hfb
      obtain rfl : k = x.tasks.length := by omega
      clear hfb hts
      by_cases hm : inR x.modes.length 1 8 = false
      · have HR := Lib.hid (HC4.out h3 hm)
        clear h3 hmd HC3 HC5 HC6 HC7 HC8 HC4 HEd
        generalize x.modes.length = n at *
        go_wp2_with (refine (in10_any _ _ _ _).mono ?_; rintro e w' ⟨rfl, rfl⟩)
        go_ret2
        exact ⟨by rw [HR.out]; rfl, hkeep⟩
      have hm : inR x.modes.length 1 8 = true := by simpa using hm
      have g5 : 1 ≤ x.modes.length ∧ x.modes.length ≤ 8 := by have := hm; unfold inR at this; simp at this; omega
      obtain ⟨g5, g6⟩ := g5
      obtain ⟨bm, om, hMA, hbm, hms⟩ := hmd (by omega)
      rw [hMA] at c2
      have hc2 : Hid (∀ {W : World}, Blk W w.heap.size 26 il.toArray → W.cell? ⟨w.heap.size, 0, none⟩ = some (.int .i64 x.res) ∧ W.cell? ⟨w.heap.size, 1, none⟩ = some (.slice (some ⟨bt, ot, none⟩) x.tasks.length v.tc) ∧
          W.cell? ⟨w.heap.size, 2, none⟩ = some (.slice (some ⟨bm, om, none⟩) x.modes.length v.mc) ∧ W.cell? ⟨w.heap.size, 3, none⟩ = some (.slice v.ea x.edges.length v.ec)) := fun hW => by have := hc1.out hW; rw [hMA] at this; exact this
      have HD5 := Lib.hid (HC5.out h3 hm)
      have HD6 := Lib.hid (HC6.out h3 hm)
      have HD7 := Lib.hid (HC7.out h3 hm)
      have HD8 := Lib.hid (HC8.out h3 hm)
      clear HC3 HC4 HC5 HC6 HC7 HC8 h3 hmd hc1
      have hall : allSet x.tasks.length < 4294967296 := allSet_lt (by omega)
      generalize allSet x.tasks.length = all at *
      obtain ⟨ws, hws⟩ : ∃ ws : World, ws = wr := ⟨_, rfl⟩
      subst hws
      go_wp2_with (refine (in10_any _ _ _ _).mono ?_; rintro e w' ⟨rfl, rfl⟩)
      clear hm
      go_loopw [6] (fun i wr => ∃ k : Nat, k ≤ x.modes.length ∧ i = .int .i64 k ∧ firstMode all 0 (x.modes.take k) = none ∧ ws = wr) (fun i _ => x.modes.length - (intOf i).toNat)
      case atStart => exact ⟨0, Nat.zero_le _, rfl, rfl, rfl⟩
      case round =>
        obtain ⟨k, hk, rfl, hfb, rfl⟩ := hrel
        by_cases hlk : k < x.modes.length
        · obtain ⟨Aq, cq, hmc, hqs⟩ := hms k hlk
          have hce := hmc.keep0 hkeep hbm
          have q0 := hce 0 _ rfl
          have q1 := hce 1 _ rfl
          simp only [Nat.add_zero] at q0
          have hok := Lib.hid (firstMode_step hlk hfb)
          have hbd := Lib.hid (fun e => firstMode_at hlk hfb (e := e))
          have hset := hof.out.set _ (List.getElem_mem hlk)
          have HQ := Lib.hid (rqueues_any Aq cq x.modes[k].qs ws (hqs.keep0 hkeep) (hlq.out _ (List.getElem_mem hlk)))
          have hor : bits .or .u32 (x.modes[k].set : Int) (all : Int) = ((x.modes[k].set ||| all : Nat) : Int) := u32_or_nat _ _ hset hall
          have HME : Hid (mddErr all x.modes[k] = if x.modes[k].set ||| all = all then (if quesOk x.modes[k].qs then none else some 104) else some 101) := show _ = _ from rfl
          have hqn := hlq.out _ (List.getElem_mem hlk)
          unfold maxLen at hqn
          clear hfb hms hmc hce hqs
          generalize x.modes[k] = m at *
          generalize m.set = ms at *
          generalize m.qs.length = nq at *
          generalize ms ||| all = so at *
          by_cases hz0 : so = all
          · have hz1 := Lib.hid hz0
            have hz2 : ((so : Int) != (all : Int)) = false := by simp [hz0]
            have hz3 : (so != all) = false := by simp [hz0]
            clear hz0
            go_wp2_with fail
            refine HQ.out.mono ?_
            rintro e w5 ⟨rfl, rfl⟩
            cases hqo : quesOk m.qs
            · have HR := Lib.hid (HD5.out k 104 (hbd.out 104 (by rw [HME.out, if_pos hz1.out, hqo]; rfl)))
              clear hqo
              go_wp2
              go_ret2
              exact ⟨by rw [HR.out]; rfl, hkeep⟩
            · have HS := Lib.hid (hok.out (by rw [HME.out, if_pos hz1.out, hqo]; rfl))
              clear hqo
              go_wp2
              go_roundw
              case rel => exact ⟨k + 1, by omega, by go_num, HS.out, by trivial⟩
              case measure => simp [intOf] <;> omega
          · have HR := Lib.hid (HD5.out k 101 (hbd.out 101 (by rw [HME.out, if_neg hz0])))
            have hz2 : ((so : Int) != (all : Int)) = true := by simp; omega
            have hz3 : (so != all) = true := by simp [hz0]
            clear hz0
            go_wp2
            go_ret2
            exact ⟨by rw [HR.out]; rfl, hkeep⟩
        · have h5 := firstMode_all (by omega) hfb
          clear hfb hms
          have HE2 := fun i W hk hi => HEd i W hk hi (by omega)
          clear HEd hlq
          rcases Nat.lt_or_ge 24 x.edges.length with g7 | g7
          · have HR := Lib.hid (HD6.out h5 g7)
            clear h5 HD5 HD6 HD7 HD8 HE2
            generalize x.edges.length = n at *
            go_wp2
            go_ret2
            exact ⟨by rw [HR.out]; rfl, hkeep⟩
          have HF7 := Lib.hid (fun k h7 => HD7.out h5 g7 (k := k) h7)
          have HF8 := Lib.hid (HD8.out h5 g7)
          clear h5 HD5 HD6 HD7 HD8
          go_wp2
          go_loopw [7] (fun i wr => ∃ k : Nat, k ≤ x.edges.length ∧ i = .int .i64 k ∧ firstBad (fun i e => edgOk x i e) 0 (x.edges.take k) = none ∧ Blk wr w.heap.size 26 il.toArray ∧ Keep [] w wr) (fun i _ => x.edges.length - (intOf i).toNat)
          case atStart => exact ⟨0, Nat.zero_le _, rfl, rfl, hbi, hkeep⟩
          case round =>
            clear hbi hkeep c0 c1 c2 c3
            obtain ⟨k, hk, rfl, hfb, hbi, hkeep⟩ := hrel
            obtain ⟨c0, c1, c2, c3⟩ := hc2.out hbi
            by_cases hlk : k < x.edges.length
            · have hok := Lib.hid (firstBad_step (fun i e => edgOk x i e) hlk hfb)
              have hbd := Lib.hid (firstBad_at (fun i e => edgOk x i e) hlk hfb)
              have HE3 := HE2 k wr hkeep hlk
              have qI := Lib.hid hbi.cellsAt
              clear hfb HE2
              generalize edgOk x k x.edges[k] = ok at *
              go_wp2_with (refine wpList_load_agg rfl 26 (.tmp 1) rfl rfl (cs := il) (by rw [HIL.out]; exact agg_image) qI.out ?_)
              refine HE3.out.mono ?_
              rintro e w5 ⟨rfl, k5⟩
              have hk6 := hkeep.then k5
              have hbi6 := hbi.keep0 k5
              cases ok
              · have HR := Lib.hid (HF7.out k (hbd.out rfl))
                go_wp2
                go_ret2
                exact ⟨by rw [HR.out]; rfl, hk6⟩
              · have HS := Lib.hid (hok.out rfl)
                go_wp2
                go_roundw
                case rel => exact ⟨k + 1, by omega, by go_num, HS.out, hbi6, hk6⟩
                case measure => simp [intOf] <;> omega
            · have h7 := firstBad_all (fun i e => edgOk x i e) (by omega) hfb
              have HR := Lib.hid (HF8.out h7)
              clear hfb h7 HE2
              go_wp2
              go_ret2
              exact ⟨by rw [HR.out]; rfl, hkeep⟩

end Go.Proofs.YtfgjcjpemlgnmaaDoor
