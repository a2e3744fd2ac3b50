/- The beginning of a change; walked. Condition: what come, wait and shift do then. The end of a change, where another one is asked for; walked. Condition: what begin does then. Another mode is asked for; walked. Condition: what begin does then. The calls of an engine one behind the other, tied up: an image that is admitted. -/
import Derived.Test.YteflgdnekflbbaaDoorEngD
namespace Go.Proofs.YteflgdnekflbbaaDoor
open Go.RowKit
attribute [local go_sem] Oper.semAt_some

theorem RetE.cons {w w13 w14 : World} {b g1 : Nat} {v : ImgV} {x : Img} {vc : CrtV} {c : Crt} {s : EnS} {bs bs2 : List Nat} {r : EnS × List Nw} {n : Nw} {A : Option Addr} {p : Nat} (h : EngAt w b v x vc c s bs) (E13 : EngAt w13 b v x vc c r.1 bs2) (hb : ∀ y ∈ bs2, y ∈ bs ∨ w.heap.size ≤ y) (K13 : Keep (b :: bs) w w13) (hg1 : w.heap.size ≤ g1) (hg2 : g1 ∉ bs2)
    (o14 : w14.ownsRow w.heap.size 63 6 (.slice A (1 + r.2.length) p) (1 + r.2.length) (newsV [n] ++ newsV r.2)) (k14 : Keep [g1] w13 w14) : RetE w b v x vc c bs (r.1, n :: r.2) (.returned (.slice A (1 + r.2.length) p)) w14 := by
  refine ⟨A, p, bs2, ?_, ?_, h.aside E13 K13 hb k14 (fun y hy => ?_), hb, K13.trans k14 (fun y hy hlt => ?_)⟩
  · rw [Nat.add_comm]; rfl
  · rw [Nat.add_comm] at o14; exact o14
  · obtain rfl : y = g1 := by simpa using hy
    exact ⟨hg1, hg2⟩
  · obtain rfl : y = g1 := by simpa using hy
    omega
section
variable {w : World} {b : Nat} {v : ImgV} {X : ChX} {vc : CrtV} {c : Crt} {s : EnS} {bs : List Nat} (h : EngAt w b v X.x vc c s bs)
include h
set_option maxRecDepth 100000 in
theorem ebegin_any {k : Nat} (hk : k < X.x.edges.length) (hkc : k < c.edges.length) (hst : c.edges[k] = ((X.la k : Int), (X.st k : Int))) (hto : (edg X.x k).to = (eTo X.x k : Int)) (hpr : (edg X.x k).prot = (ePr X.x k : Int)) (hp : ePr X.x k = 1 ∨ ePr X.x k = 2 ∨ ePr X.x k = 3) (live : Nat)
    (hcm : ∀ w1 bs1, EngAt w1 b v X.x vc c { s with edge := some k, since := s.now, opn := 0, ph := 1 } bs1 → Calls Tryd.prog 22 #[.pointer (some ⟨b, 0, none⟩), .int .u32 (live : Int)] w1 (RetE w1 b v X.x vc c bs1 (come0 X { s with edge := some k, since := s.now, opn := 0, ph := 1 })))
    (hw2 : ∀ w1 bs1, EngAt w1 b v X.x vc c { s with edge := some k, since := s.now, opn := 0, ph := 2 } bs1 → Calls Tryd.prog 32 #[.pointer (some ⟨b, 0, none⟩), .agg #[.int .i64 (X.la k : Int), .int .i64 (X.st k : Int)], .int .u32 (live : Int)] w1 (RetE w1 b v X.x vc c bs1 (waitE (come0 X) { s with edge := some k, since := s.now, opn := 0, ph := 2 } (X.la k))))
    (hsh : ePr X.x k = 3 → ∀ w1 bs1, EngAt w1 b v X.x vc c { s with edge := some k, since := s.now, opn := 0, ph := 3 } bs1 → Calls Tryd.prog 31 #[.pointer (some ⟨b, 0, none⟩)] w1 (fun e w' => e = .returned (.tuple #[]) ∧ ∃ bs', EngAt w' b v X.x vc c (shiftE X.x k { s with edge := some k, since := s.now, opn := 0, ph := 3 }) bs' ∧ (∀ y ∈ bs', y ∈ bs1 ∨ w1.heap.size ≤ y) ∧ Keep (b :: bs1) w1 w'))
    (hw3 : ePr X.x k = 3 → ∀ w1 bs1, EngAt w1 b v X.x vc c (shiftE X.x k { s with edge := some k, since := s.now, opn := 0, ph := 3 }) bs1 → Calls Tryd.prog 32 #[.pointer (some ⟨b, 0, none⟩), .agg #[.int .i64 (X.la k : Int), .int .i64 (X.st k : Int)], .int .u32 (live : Int)] w1 (RetE w1 b v X.x vc c bs1 (waitE (come0 X) (shiftE X.x k { s with edge := some k, since := s.now, opn := 0, ph := 3 }) (X.la k))))
    (hm1 : (come0 X { s with edge := some k, since := s.now, opn := 0, ph := 1 }).2.length ≤ 100) (hm2 : (waitE (come0 X) { s with edge := some k, since := s.now, opn := 0, ph := 2 } (X.la k)).2.length ≤ 100) (hm3 : (waitE (come0 X) (shiftE X.x k { s with edge := some k, since := s.now, opn := 0, ph := 3 }) (X.la k)).2.length ≤ 100) :
    Calls Tryd.prog 20 #[.pointer (some ⟨b, 0, none⟩), .int .i64 (k : Int), .int .u32 (live : Int)] w (RetE w b v X.x vc c bs (beginE X s k (decide (live ≠ 0)))) := by
  have HCM := Lib.hid hcm
  have HW2 := Lib.hid hw2
  have HSH := Lib.hid hsh
  have HW3 := Lib.hid hw3
  have HM1 := Lib.hid hm1
  have HM2 := Lib.hid hm2
  have HM3 := Lib.hid hm3
  clear hcm hw2 hsh hw3 hm1 hm2 hm3
  obtain ⟨eb, eo, hA, hc⟩ := h.edge1 hk
  have hl := h.im.le
  unfold maxLen at hl
  have p0 : (0 : Int) ≤ (k : Int) := by omega
  have p1 : (k : Int) < (X.x.edges.length : Int) := by omega
  have HV : Hid (nwCells ⟨1, k, eTo X.x k, 0⟩ = [.bool true, .bool false, .bool false, .int .i64 (k : Int), .int .i64 (eTo X.x k : Int), .int .i64 0]) := show _ = _ from rfl
  have hbd := fun W => build_began (k : Int) (eTo X.x k : Int) W
  have HE := Lib.hid h
  have hbl := Lib.hid h.lts
  have hbn := h.lt
  have c7 := h.c7
  have c9 := h.c9
  have c10 := h.c10
  have c12 := h.c12
  have f7 := h.fr 7
  have f9 := h.fr 9
  have f12 := h.fr 12
  have E1 := Lib.hid (((h.put (i := 7) (u := .int .i64 (k : Int)) (s' := { s with edge := some k }) (by decide) (fun A => rfl) rfl).put (i := 9) (u := .int .i64 (s.now : Int)) (s' := { s with edge := some k, since := s.now }) (by decide) (fun A => rfl) rfl).put (i := 12) (u := .int .u32 0) (s' := { s with edge := some k, since := s.now, opn := 0 }) (by decide) (fun A => rfl) rfl)
  have K1 := Lib.hid ((((Keep.refl (b :: bs) w).setCell (p := ⟨b, 7, none⟩) (fun _ => List.mem_cons_self) (.int .i64 (k : Int))).setCell (p := ⟨b, 9, none⟩) (fun _ => List.mem_cons_self) (.int .i64 (s.now : Int))).setCell (p := ⟨b, 12, none⟩) (fun _ => List.mem_cons_self) (.int .u32 0))
  clear h hc
  go_enter Tryd.func20, Tryd.ntmps20
  go_upto_region 2 with fail
  generalize ((w.setCell ⟨b, 7, none⟩ (.int .i64 (k : Int))).setCell ⟨b, 9, none⟩ (.int .i64 (s.now : Int))).setCell ⟨b, 12, none⟩ (.int .u32 0) = w1 at *
  clear c7 c9 c10 c12 f7 f9 f12
  obtain ⟨eb2, eo2, hA2, hc2⟩ := E1.out.edge1 hk
  have q3 : w1.cell? ⟨b, 3, none⟩ = some (.slice (some ⟨eb2, eo2, none⟩) X.x.edges.length v.ec) := by rw [E1.out.c3, hA2]
  have q1 : w1.cell? ⟨eb2, eo2 + k * 23 + 1, none⟩ = some (.int .i64 (eTo X.x k : Int)) := by rw [← hto]; exact (hc2 w1 (Keep.refl _ _)) 1 _ rfl
  clear hc2
  go_wp2_with (refine stop_at 35 rfl ?_)
  constructor
  refine wpList_runsC rfl (exec_slice_oneC slice_news (cs := nwCells ⟨1, k, eTo X.x k, 0⟩) rfl (by decide) (congrArg (fun l => Value.agg (List.toArray l)) HV.out.symm) _) ?_
  have E2 := Lib.hid (E1.out.keep0 ((Keep.refl [] w1).alloc (.cells (nwCells ⟨1, k, eTo X.x k, 0⟩).toArray 63)))
  have B2 := Lib.hid (Blk.new w1 63 (nwCells ⟨1, k, eTo X.x k, 0⟩).toArray)
  have K2 := Lib.hid (K1.out.alloc (.cells (nwCells ⟨1, k, eTo X.x k, 0⟩).toArray 63))
  have hg1 : w.heap.size ≤ w1.heap.size := K1.out.size
  generalize w1.alloc (.cells (nwCells ⟨1, k, eTo X.x k, 0⟩).toArray 63) = w2 at *
  generalize w1.heap.size = g1 at *
  clear q1 q3 E1 K1 hbd hA2
  go_upto_region 3 with fail
  have HCC := Lib.hid E2.out.cc
  have HCE := Lib.hid (cedge_any vc c k w2 E2.out.ce hkc)
  have HIL : Hid ((crtCells vc c).length = 2) := show _ = _ from rfl
  have HST : Hid (c.edges[k].1 = (X.la k : Int) ∧ c.edges[k].2 = (X.st k : Int)) := show _ ∧ _ from by rw [hst]; exact ⟨rfl, rfl⟩
  clear hst hl p0 p1
  generalize c.edges[k].1 = s1 at *
  generalize c.edges[k].2 = s2 at *
  generalize crtCells vc c = cl at *
  have c7 : w2.cell? ⟨b, 7, none⟩ = some (.int .i64 (k : Int)) := by rw [E2.out.c7]; rfl
  go_wp2_with (first
    | (refine wpList_load_agg rfl 54 (.tmp 39) rfl rfl (cs := cl) (by rw [HIL.out]; exact agg_cert) HCC.out ?_)
    | (go_at_call 30; refine HCE.out.mono ?_; rintro _ w3 ⟨rfl, k3⟩)
    | (refine stop_store 58 (.tmp 8) (.tmp 43) rfl ?_))
  constructor
  refine wpList_store_all rfl 58 (.tmp 8) (.tmp 43) rfl rfl rfl (vs := [.int .i64 s1, .int .i64 s2]) agg_span.2 (Blk.new _ _ _) (by simp [Value.oneCell']) ?_ ?_
  · rfl
  intro w5 d5 k5
  have hge := k3.size
  have K2s : Hid (w.heap.size ≤ w3.heap.size) := Nat.le_trans K2.out.size hge
  have k35 : Keep [] w2 w5 := k3.trans (((Keep.refl [] w3).alloc _).trans k5 (fun y hy hlt => by simp at hy; omega)) (fun _ h _ => h)
  have E5 := Lib.hid (E2.out.keep0 k35)
  have R5 := Lib.hid (B2.out.keep0 k35)
  have K5 := Lib.hid (K2.out.then k35)
  have D5 : Hid (Blk w5 w3.heap.size 58 #[.int .i64 (X.la k : Int), .int .i64 (X.st k : Int)]) := by show Blk _ _ _ _; rw [← HST.out.1, ← HST.out.2]; exact d5
  have hne : w3.heap.size ≠ b := by have := E2.out.lt; omega
  have hgl1 : g1 ≠ b := by omega
  have hgl2 : g1 < w5.heap.size := R5.out.lt
  generalize w3.heap.size = gl at *
  clear k3 k5 d5 k35 HCE HCC c7 E2 B2 K2 HST
  go_upto_region 4 with fail
  obtain ⟨eb2, eo2, hA2, hc2⟩ := E5.out.edge1 hk
  have hl := E5.out.im.le
  unfold maxLen at hl
  have p0 : (0 : Int) ≤ (k : Int) := by omega
  have p1 : (k : Int) < (X.x.edges.length : Int) := by omega
  have q3 : w5.cell? ⟨b, 3, none⟩ = some (.slice (some ⟨eb2, eo2, none⟩) X.x.edges.length v.ec) := by rw [E5.out.c3, hA2]
  have q2 : w5.cell? ⟨eb2, eo2 + k * 23 + 2, none⟩ = some (.int .i64 (ePr X.x k : Int)) := by rw [← hpr]; exact (hc2 w5 (Keep.refl _ _)) 2 _ rfl
  have c8 := E5.out.c8
  have f8 := E5.out.fr 8
  clear hc2 hpr hto
  have hg0 : g1 ∉ b :: bs := fun hm => by
    rcases List.mem_cons.1 hm with hm | hm
    · omega
    · have := hbl.out g1 hm; omega
  rcases hp with hp | hp | hp
  · have q2' : w5.cell? ⟨eb2, eo2 + k * 23 + 2, none⟩ = some (.int .i64 1) := by rw [q2, hp]; rfl
    have E6 := Lib.hid (E5.out.put (i := 8) (u := .int .i64 1) (s' := { s with edge := some k, since := s.now, opn := 0, ph := 1 }) (by decide) (fun A => rfl) rfl)
    have R6 := Lib.hid (R5.out.far (p := ⟨b, 8, none⟩) hgl1 (.int .i64 1))
    have K6 := Lib.hid (K5.out.setCell (p := ⟨b, 8, none⟩) (fun _ => List.mem_cons_self) (.int .i64 1))
    have HP := Lib.hid hp
    clear q2 hp HW2 HW3 HSH D5 E5 K5 R5
    go_upto_region 7 with fail
    generalize w5.setCell ⟨b, 8, none⟩ (.int .i64 1) = w6 at *
    clear q2' q3 c8 f8
    rcases Nat.eq_zero_or_pos live with rfl | hlv
    · obtain ⟨r, hr⟩ : ∃ r, come0 X { s with edge := some k, since := s.now, opn := 0, ph := 1 } = r := ⟨_, rfl⟩
      have hcm1 := HCM.out
      have hm1 := HM1.out
      simp only [hr] at hcm1 hm1
      have HC : Hid (beginE X s k (decide ((0 : Nat) ≠ 0)) = (r.1, ⟨1, k, eTo X.x k, 0⟩ :: r.2)) := by
        show _ = _
        unfold beginE
        rw [if_pos HP.out, if_neg (by simp)]
        simp only [hr]
      have HCM1 := Lib.hid hcm1
      have HMM := Lib.hid hm1
      clear hr hcm1 hm1 HCM HM1
      go_wp2_with (first
        | (go_at_call 22; refine (HCM1.out _ _ E6.out).mono ?_; rintro _ w13 ⟨A13, p13, bs2, rfl, o13, E13, hb13, k13⟩)
        | (refine stop_at 65 rfl ?_))
      constructor
      have R13 := R6.out.keep k13 hg0
      have K13 := K6.out.trans k13 (fun y hy _ => hy)
      have hb13' : ∀ y ∈ bs2, y ∈ bs ∨ w.heap.size ≤ y := fun y hy => by
        rcases hb13 y hy with hy | hy
        · exact (fun _ hy => Or.inl hy : ∀ y ∈ bs, y ∈ bs ∨ w.heap.size ≤ y) y hy
        · exact .inr (Nat.le_trans K6.out.size hy)
      have hg2 : g1 ∉ bs2 := fun hm => by
        rcases hb13 g1 hm with hm | hm
        · exact hg0 (List.mem_cons_of_mem _ hm)
        · have := R6.out.lt; omega
      have hsz := K13.size
      have hmm := HMM.out
      refine wpList_append_reads rfl (.tmp 61) (.tmp 64) 39 rfl slice_news (own_news1 _ R13 hg1) rfl (Reads.of_own o13) rfl (newsV_one _) hsz (by omega) (by unfold maxLen; omega) ?_
      intro v14 w14 o14 k14 _
      obtain ⟨A14, p14, rfl⟩ := own_shape o14
      have RC := Lib.hid (RetE.cons HE.out E13 hb13' K13 hg1 hg2 o14 k14)
      clear o14 k14 o13 E13 k13 K13 R13 hb13 hb13' hg2
      go_wp2_with fail
      go_ret
      rw [HC.out]
      exact RC.out
    · have p2 : ¬ (live : Int) = 0 := by omega
      have HC : Hid (beginE X s k (decide (live ≠ 0)) = ({ s with edge := some k, since := s.now, opn := 0, ph := 1 }, [⟨1, k, eTo X.x k, 0⟩])) := by
        show _ = _
        unfold beginE
        rw [if_pos HP.out, if_pos (by simp; omega)]
      clear hlv
      go_wp2
      go_ret
      rw [HC.out]
      exact ⟨some ⟨g1, 0, none⟩, 1, bs, rfl, own_news1 _ R6.out hg1, E6.out, fun y hy => .inl hy, K6.out⟩
  · have q2' : w5.cell? ⟨eb2, eo2 + k * 23 + 2, none⟩ = some (.int .i64 2) := by rw [q2, hp]; rfl
    have E6 := Lib.hid (E5.out.put (i := 8) (u := .int .i64 2) (s' := { s with edge := some k, since := s.now, opn := 0, ph := 2 }) (by decide) (fun A => rfl) rfl)
    have R6 := Lib.hid (R5.out.far (p := ⟨b, 8, none⟩) hgl1 (.int .i64 2))
    have D6 := Lib.hid (D5.out.far (p := ⟨b, 8, none⟩) hne (.int .i64 2))
    have K6 := Lib.hid (K5.out.setCell (p := ⟨b, 8, none⟩) (fun _ => List.mem_cons_self) (.int .i64 2))
    have HP := Lib.hid hp
    clear q2 hp HCM HW3 HSH D5 E5 K5 R5
    go_upto_region 15 with fail
    generalize w5.setCell ⟨b, 8, none⟩ (.int .i64 2) = w6 at *
    clear q2' q3 c8 f8
    obtain ⟨r, hr⟩ : ∃ r, waitE (come0 X) { s with edge := some k, since := s.now, opn := 0, ph := 2 } (X.la k) = r := ⟨_, rfl⟩
    have hcm1 := HW2.out
    have hm1 := HM2.out
    simp only [hr] at hcm1 hm1
    have HC : Hid (beginE X s k (decide (live ≠ 0)) = (r.1, ⟨1, k, eTo X.x k, 0⟩ :: r.2)) := by
      show _ = _
      unfold beginE
      rw [if_neg (by rw [HP.out]; decide), if_pos HP.out]
      simp only [hr]
    have HCM1 := Lib.hid hcm1
    have HMM := Lib.hid hm1
    clear hr hcm1 hm1 HW2 HM2
    go_wp2_with (first
      | (refine wpList_load_agg rfl 58 (.tmp 8) rfl rfl (cs := [.int .i64 (X.la k : Int), .int .i64 (X.st k : Int)]) agg_span D6.out.cellsAt ?_)
      | (go_at_call 32; refine (HCM1.out _ _ E6.out).mono ?_; rintro _ w13 ⟨A13, p13, bs2, rfl, o13, E13, hb13, k13⟩)
      | (refine stop_at 84 rfl ?_))
    constructor
    have R13 := R6.out.keep k13 hg0
    have K13 := K6.out.trans k13 (fun y hy _ => hy)
    have hb13' : ∀ y ∈ bs2, y ∈ bs ∨ w.heap.size ≤ y := fun y hy => by
      rcases hb13 y hy with hy | hy
      · exact (fun _ hy => Or.inl hy : ∀ y ∈ bs, y ∈ bs ∨ w.heap.size ≤ y) y hy
      · exact .inr (Nat.le_trans K6.out.size hy)
    have hg2 : g1 ∉ bs2 := fun hm => by
      rcases hb13 g1 hm with hm | hm
      · exact hg0 (List.mem_cons_of_mem _ hm)
      · have := R6.out.lt; omega
    have hsz := K13.size
    have hmm := HMM.out
    refine wpList_append_reads rfl (.tmp 79) (.tmp 83) 39 rfl slice_news (own_news1 _ R13 hg1) rfl (Reads.of_own o13) rfl (newsV_one _) hsz (by omega) (by unfold maxLen; omega) ?_
    intro v14 w14 o14 k14 _
    obtain ⟨A14, p14, rfl⟩ := own_shape o14
    have RC := Lib.hid (RetE.cons HE.out E13 hb13' K13 hg1 hg2 o14 k14)
    clear o14 k14 o13 E13 k13 K13 R13 hb13 hb13' hg2
    go_wp2_with fail
    go_ret
    rw [HC.out]
    exact RC.out
  · have q2' : w5.cell? ⟨eb2, eo2 + k * 23 + 2, none⟩ = some (.int .i64 3) := by rw [q2, hp]; rfl
    have E6 := Lib.hid (E5.out.put (i := 8) (u := .int .i64 3) (s' := { s with edge := some k, since := s.now, opn := 0, ph := 3 }) (by decide) (fun A => rfl) rfl)
    have R6 := Lib.hid (R5.out.far (p := ⟨b, 8, none⟩) hgl1 (.int .i64 3))
    have D6 := Lib.hid (D5.out.far (p := ⟨b, 8, none⟩) hne (.int .i64 3))
    have K6 := Lib.hid (K5.out.setCell (p := ⟨b, 8, none⟩) (fun _ => List.mem_cons_self) (.int .i64 3))
    have HP := Lib.hid hp
    have HSH3 := Lib.hid (HSH.out hp)
    have HW33 := Lib.hid (HW3.out hp)
    clear HSH HW3
    have hgl3 : gl ∉ b :: bs := fun hm => by
      rcases List.mem_cons.1 hm with hm | hm
      · omega
      · have := hbl.out gl hm; have := K2s.out; omega
    clear q2 hp HCM HW2 D5 E5 K5 R5
    go_upto_region 14 with fail
    generalize w5.setCell ⟨b, 8, none⟩ (.int .i64 3) = w6 at *
    clear q2' q3 c8 f8
    go_upto_region 15 with (go_at_call 31; refine (HSH3.out _ _ E6.out).mono ?_; rintro _ w8 ⟨rfl, bs8, E8, hb8, k8⟩)
    have R8 := Lib.hid (R6.out.keep k8 hg0)
    have D8 := Lib.hid (D6.out.keep k8 hgl3)
    have K8 := Lib.hid (K6.out.trans k8 (fun y hy _ => hy))
    have hb8' : ∀ y ∈ bs8, y ∈ bs ∨ w.heap.size ≤ y := fun y hy => (hb8 y hy).imp id (fun hy => Nat.le_trans K6.out.size hy)
    have hg8 : g1 ∉ b :: bs8 := fun hm => by
      rcases List.mem_cons.1 hm with hm | hm
      · omega
      · rcases hb8 g1 hm with hm | hm
        · exact hg0 (List.mem_cons_of_mem _ hm)
        · have := R6.out.lt; omega
    have hk8 : ∀ y, y ∈ b :: bs8 → y < w.heap.size → y ∈ b :: bs := fun y hy hlt => by
      rcases List.mem_cons.1 hy with rfl | hy
      · exact List.mem_cons_self
      · rcases hb8' y hy with hy | hy
        · exact List.mem_cons_of_mem _ hy
        · omega
    have E8h := Lib.hid E8
    clear E8 k8 hb8 HSH3
    obtain ⟨r, hr⟩ : ∃ r, waitE (come0 X) (shiftE X.x k { s with edge := some k, since := s.now, opn := 0, ph := 3 }) (X.la k) = r := ⟨_, rfl⟩
    have hcm1 := HW33.out
    have hm1 := HM3.out
    simp only [hr] at hcm1 hm1
    have HC : Hid (beginE X s k (decide (live ≠ 0)) = (r.1, ⟨1, k, eTo X.x k, 0⟩ :: r.2)) := by
      show _ = _
      unfold beginE
      rw [if_neg (by rw [HP.out]; decide), if_neg (by rw [HP.out]; decide)]
      simp only [hr]
    have HCM1 := Lib.hid hcm1
    have HMM := Lib.hid hm1
    have HB8 := Lib.hid hb8'
    have HK8 := Lib.hid hk8
    clear hr hcm1 hm1 HW33 HM3 hb8' hk8
    go_wp2_with (first
      | (refine wpList_load_agg rfl 58 (.tmp 8) rfl rfl (cs := [.int .i64 (X.la k : Int), .int .i64 (X.st k : Int)]) agg_span D8.out.cellsAt ?_)
      | (go_at_call 32; refine (HCM1.out _ _ E8h.out).mono ?_; rintro _ w13 ⟨A13, p13, bs2, rfl, o13, E13, hb13, k13⟩)
      | (refine stop_at 84 rfl ?_))
    constructor
    have R13 := R8.out.keep k13 hg8
    have K13 := K8.out.trans k13 HK8.out
    have hb13' : ∀ y ∈ bs2, y ∈ bs ∨ w.heap.size ≤ y := fun y hy => by
      rcases hb13 y hy with hy | hy
      · exact HB8.out y hy
      · exact .inr (Nat.le_trans K8.out.size hy)
    have hg2 : g1 ∉ bs2 := fun hm => by
      rcases hb13 g1 hm with hm | hm
      · exact hg8 (List.mem_cons_of_mem _ hm)
      · have := R8.out.lt; omega
    have hsz := K13.size
    have hmm := HMM.out
    refine wpList_append_reads rfl (.tmp 79) (.tmp 83) 39 rfl slice_news (own_news1 _ R13 hg1) rfl (Reads.of_own o13) rfl (newsV_one _) hsz (by omega) (by unfold maxLen; omega) ?_
    intro v14 w14 o14 k14 _
    obtain ⟨A14, p14, rfl⟩ := own_shape o14
    have RC := Lib.hid (RetE.cons HE.out E13 hb13' K13 hg1 hg2 o14 k14)
    clear o14 k14 o13 E13 k13 K13 R13 hb13 hb13' hg2
    go_wp2_with fail
    go_ret
    rw [HC.out]
    exact RC.out
end
end Go.Proofs.YteflgdnekflbbaaDoor

namespace Go.Proofs.YteflgdnekflbbaaDoor
open Go.RowKit
attribute [local go_sem] Oper.semAt_some

section
variable {w : World} {b : Nat} {v : ImgV} {X : ChX} {vc : CrtV} {c : Crt} {s : EnS} {bs : List Nat} (h : EngAt w b v X.x vc c s bs)
include h
set_option maxRecDepth 100000 in
theorem eover1_any {k : Nat} (he : s.edge = some k) {hd : Nat} (hh : s.held = some hd) (live : Nat)
    (hbeg : ∀ i w1 bs1, edgeAt X.x.edges (s.mode : Int) (hd : Int) = some i → EngAt w1 b v X.x vc c { (over0 s).1 with held := none } bs1 →
      Calls Tryd.prog 20 #[.pointer (some ⟨b, 0, none⟩), .int .i64 (i : Int), .int .u32 (live : Int)] w1 (RetE w1 b v X.x vc c bs1 (beginE X { (over0 s).1 with held := none } i (decide (live ≠ 0)))))
    (hm : ∀ i, (beginE X { (over0 s).1 with held := none } i (decide (live ≠ 0))).2.length ≤ 100) :
    Calls Tryd.prog 23 #[.pointer (some ⟨b, 0, none⟩), .int .u32 (live : Int)] w (RetE w b v X.x vc c bs (over1 X (decide (live ≠ 0)) s)) := by
  generalize decide (live ≠ 0) = lb at *
  have hF : ∀ w', Keep [] w w' → w'.cell? ⟨b, 7, none⟩ = some (.int .i64 (k : Int)) ∧ w'.cell? ⟨b, 6, none⟩ = some (.int .i64 (s.mode : Int)) := fun w' kk => by
    refine ⟨?_, (h.keep0 kk).c6⟩
    rw [(h.keep0 kk).c7, he]; rfl
  have HE := Lib.hid h
  have hbl := Lib.hid h.lts
  have hbn := h.lt
  have HV : Hid (nwCells ⟨3, k, s.mode, 0⟩ = [.bool false, .bool false, .bool true, .int .i64 (k : Int), .int .i64 (s.mode : Int), .int .i64 0]) := show _ = _ from rfl
  have HN : Hid ((over0 s).2 = [⟨3, k, s.mode, 0⟩]) := by show _ = _; unfold over0; rw [he]; rfl
  have HBG := Lib.hid hbeg
  have HM := Lib.hid hm
  have hbd := fun W => build_over (k : Int) (s.mode : Int) W
  clear h hbeg hm
  go_enter Tryd.func23, Tryd.ntmps23
  go_wp2
  refine wp_region_flow_tail 9 (Keep [] w) rfl (by kernel_rfl) (Keep.refl _ _).drew ?_
  repeat (refine fl_val (v := ?_) (by rfl) ?_ ?_; rotate_left; (intro w' hS; obtain ⟨f1,f2⟩ := hF w' hS; go_simp; with_reducible rfl); simp only [Act.put, List.setIfInBounds_toArray, List.set_cons_zero, List.set_cons_succ])
  refine fl_nil ?_
  intro w4 hS
  clear hF hbd
  refine wpList_runsC rfl (exec_slice_oneC slice_news (cs := nwCells ⟨3, k, s.mode, 0⟩) rfl (by decide) (congrArg (fun l => Value.agg (List.toArray l)) HV.out.symm) _) ?_
  have E5 := (HE.out.keep0 hS).keep0 ((Keep.refl [] w4).alloc (.cells (nwCells ⟨3, k, s.mode, 0⟩).toArray 63))
  have B5 := Blk.new w4 63 (nwCells ⟨3, k, s.mode, 0⟩).toArray
  have K5 := hS.alloc (.cells (nwCells ⟨3, k, s.mode, 0⟩).toArray 63)
  have hg1 := hS.size
  generalize w4.alloc (.cells (nwCells ⟨3, k, s.mode, 0⟩).toArray 63) = w5 at *
  generalize w4.heap.size = g1 at *
  have hgb : g1 ≠ b := by omega
  have c7 := E5.c7
  have c8 := E5.c8
  have c12 := E5.c12
  have f7 := E5.fr 7
  have f8 := E5.fr 8
  have f12 := E5.fr 12
  have E6 := Lib.hid (((E5.put (i := 8) (u := .int .i64 0) (s' := { s with ph := 0 }) (by decide) (fun A => rfl) rfl).put (i := 7) (u := .int .i64 (-1)) (s' := { s with ph := 0, edge := none }) (by decide) (fun A => rfl) rfl).put (i := 12) (u := .int .u32 0) (s' := (over0 s).1) (by decide) (fun A => rfl) rfl)
  have O6 := Lib.hid (((B5.far (p := ⟨b, 8, none⟩) hgb (.int .i64 0)).far (p := ⟨b, 7, none⟩) hgb (.int .i64 (-1))).far (p := ⟨b, 12, none⟩) hgb (.int .u32 0))
  have K6 := Lib.hid ((((K5.mono (G := b :: bs) (by simp)).setCell (p := ⟨b, 8, none⟩) (fun _ => List.mem_cons_self) (.int .i64 0)).setCell (p := ⟨b, 7, none⟩) (fun _ => List.mem_cons_self) (.int .i64 (-1))).setCell (p := ⟨b, 12, none⟩) (fun _ => List.mem_cons_self) (.int .u32 0))
  clear E5 B5 K5 hS
  go_upto_region 3 with fail
  generalize ((w5.setCell ⟨b, 8, none⟩ (.int .i64 0)).setCell ⟨b, 7, none⟩ (.int .i64 (-1))).setCell ⟨b, 12, none⟩ (.int .u32 0) = w6 at *
  clear c7 c8 c12 f7 f8 f12
  have hF : ∀ w', Keep [] w6 w' → w'.cell? ⟨b, 11, none⟩ = some (.int .i64 (hd : Int)) ∧ w'.cell? ⟨b, 6, none⟩ = some (.int .i64 (s.mode : Int)) := fun w' kk => by
    have E := E6.out.keep0 kk
    refine ⟨?_, E.c6⟩
    rw [E.c11]
    show some (Value.int .i64 (optI s.held)) = _
    rw [hh]; rfl
  have c11 := (hF w6 (Keep.refl _ _)).1
  have p0 : ¬ (hd : Int) < 0 := by omega
  have HCA : ∀ w', Keep [] w6 w' → CellsAt w' b 0 (imgCells v X.x) := fun w' kk => (E6.out.keep0 kk).ci
  have HED := fun w' (kk : Keep [] w6 w') => Lib.hid (edge_any v X.x (s.mode : Int) (hd : Int) w' ((E6.out.keep0 kk).im))
  have HIL : Hid ((imgCells v X.x).length = 4) := show _ = _ from rfl
  go_upto_region 5 with fail
  clear c11 p0
  obtain ⟨rr, hrr⟩ : ∃ rr, edgeAt X.x.edges (s.mode : Int) (hd : Int) = rr := ⟨_, rfl⟩
  simp only [hrr] at HED
  have HRR := Lib.hid hrr
  clear hrr
  generalize imgCells v X.x = il at *
  cases rr with
  | none =>
    have HC : Hid (over1 X lb s = ({ (over0 s).1 with held := none }, (over0 s).2)) := by
      show _ = _
      unfold over1
      rw [hh]
      simp only [HRR.out]
    clear HBG HM
    refine wp_region_flow (Keep [] w6) rfl (by kernel_rfl) (Keep.refl _ _).drew ?_
    (refine fl_val (v := ?_) (by rfl) ?_ ?_; rotate_left; (intro w' hS; obtain ⟨f1,f2⟩ := hF w' hS; go_simp; with_reducible rfl); simp only [Act.put, List.setIfInBounds_toArray, List.set_cons_zero, List.set_cons_succ])
    (refine fl_val (v := ?_) (by rfl) ?_ ?_; rotate_left; (intro w' hS; obtain ⟨f1,f2⟩ := hF w' hS; go_simp; with_reducible rfl); simp only [Act.put, List.setIfInBounds_toArray, List.set_cons_zero, List.set_cons_succ])
    (refine fl_val (v := ?_) (by rfl) ?_ ?_; rotate_left; (intro w' hS; obtain ⟨f1,f2⟩ := hF w' hS; go_simp; with_reducible rfl); simp only [Act.put, List.setIfInBounds_toArray, List.set_cons_zero, List.set_cons_succ])
    refine fl_agg 26 (.tmp 36) il rfl rfl rfl (by rw [HIL.out]; exact agg_image) HCA ?_
    simp only [Act.put, List.setIfInBounds_toArray, List.set_cons_zero, List.set_cons_succ]
    repeat (refine fl_val (v := ?_) (by rfl) ?_ ?_; rotate_left; (intro w' hS; obtain ⟨f1,f2⟩ := hF w' hS; go_simp; with_reducible rfl); simp only [Act.put, List.setIfInBounds_toArray, List.set_cons_zero, List.set_cons_succ])
    refine fl_call (f := 18) (v := .tuple #[.int .i64 0, .bool false]) (by rfl) rfl (by simp only [List.map_toArray, List.map_cons, List.map_nil]; rfl) Tryd.func18 (by kernel_rfl) (by kernel_rfl) (fun w' hS => ((HED w' hS).out.mono (fun e w'' h => ⟨h.1, hS.then h.2⟩))) ?_; simp only [Act.put, List.setIfInBounds_toArray, List.set_cons_zero, List.set_cons_succ]
    repeat (refine fl_val (v := ?_) (by rfl) ?_ ?_; rotate_left; (intro w' hS; obtain ⟨f1,f2⟩ := hF w' hS; go_simp; with_reducible rfl); simp only [Act.put, List.setIfInBounds_toArray, List.set_cons_zero, List.set_cons_succ])
    refine fl_nil ?_
    intro w7 hS
    have E7 := E6.out.keep0 hS
    have c11 := E7.c11
    have f11 := E7.fr 11
    have E8 := Lib.hid (E7.put (i := 11) (u := .int .i64 (-1)) (s' := { (over0 s).1 with held := none }) (by decide) (fun A => rfl) rfl)
    have O8 := Lib.hid ((O6.out.keep0 hS).far (p := ⟨b, 11, none⟩) hgb (.int .i64 (-1)))
    have K8 := Lib.hid ((K6.out.then hS).setCell (p := ⟨b, 11, none⟩) (fun _ => List.mem_cons_self) (.int .i64 (-1)))
    clear hF HCA HED E7 hS E6 O6 K6
    go_upto_region 7 with fail
    generalize w7.setCell ⟨b, 11, none⟩ (.int .i64 (-1)) = w8 at *
    clear c11 f11
    go_wp2
    go_ret
    rw [HC.out]
    refine ⟨some ⟨g1, 0, none⟩, 1, bs, rfl, ?_, E8.out, fun y hy => .inl hy, K8.out⟩
    rw [show ({ (over0 s).1 with held := none }, (over0 s).2).2 = (over0 s).2 from rfl, HN.out]
    exact own_news1 _ O8.out hg1
  | some i =>
    obtain ⟨r, hr⟩ : ∃ r, beginE X { (over0 s).1 with held := none } i lb = r := ⟨_, rfl⟩
    have hm1 := HM.out i
    have hbg := fun w1 bs1 => HBG.out i w1 bs1 HRR.out
    simp only [hr] at hm1 hbg
    have HC : Hid (over1 X lb s = (r.1, ⟨3, k, s.mode, 0⟩ :: r.2)) := by
      show _ = _
      unfold over1
      rw [hh]
      simp only [HRR.out, HN.out]
      rw [hr]
      rfl
    have HBG1 := Lib.hid hbg
    have HMM := Lib.hid hm1
    clear hbg hm1 hr HBG HM
    refine wp_region_flow (Keep [] w6) rfl (by kernel_rfl) (Keep.refl _ _).drew ?_
    (refine fl_val (v := ?_) (by rfl) ?_ ?_; rotate_left; (intro w' hS; obtain ⟨f1,f2⟩ := hF w' hS; go_simp; with_reducible rfl); simp only [Act.put, List.setIfInBounds_toArray, List.set_cons_zero, List.set_cons_succ])
    (refine fl_val (v := ?_) (by rfl) ?_ ?_; rotate_left; (intro w' hS; obtain ⟨f1,f2⟩ := hF w' hS; go_simp; with_reducible rfl); simp only [Act.put, List.setIfInBounds_toArray, List.set_cons_zero, List.set_cons_succ])
    (refine fl_val (v := ?_) (by rfl) ?_ ?_; rotate_left; (intro w' hS; obtain ⟨f1,f2⟩ := hF w' hS; go_simp; with_reducible rfl); simp only [Act.put, List.setIfInBounds_toArray, List.set_cons_zero, List.set_cons_succ])
    refine fl_agg 26 (.tmp 36) il rfl rfl rfl (by rw [HIL.out]; exact agg_image) HCA ?_
    simp only [Act.put, List.setIfInBounds_toArray, List.set_cons_zero, List.set_cons_succ]
    repeat (refine fl_val (v := ?_) (by rfl) ?_ ?_; rotate_left; (intro w' hS; obtain ⟨f1,f2⟩ := hF w' hS; go_simp; with_reducible rfl); simp only [Act.put, List.setIfInBounds_toArray, List.set_cons_zero, List.set_cons_succ])
    refine fl_call (f := 18) (v := .tuple #[.int .i64 (i : Int), .bool true]) (by rfl) rfl (by simp only [List.map_toArray, List.map_cons, List.map_nil]; rfl) Tryd.func18 (by kernel_rfl) (by kernel_rfl) (fun w' hS => ((HED w' hS).out.mono (fun e w'' h => ⟨h.1, hS.then h.2⟩))) ?_; simp only [Act.put, List.setIfInBounds_toArray, List.set_cons_zero, List.set_cons_succ]
    repeat (refine fl_val (v := ?_) (by rfl) ?_ ?_; rotate_left; (intro w' hS; obtain ⟨f1,f2⟩ := hF w' hS; go_simp; with_reducible rfl); simp only [Act.put, List.setIfInBounds_toArray, List.set_cons_zero, List.set_cons_succ])
    refine fl_nil ?_
    intro w7 hS
    have E7 := E6.out.keep0 hS
    have c11 := E7.c11
    have f11 := E7.fr 11
    have E8 := Lib.hid (E7.put (i := 11) (u := .int .i64 (-1)) (s' := { (over0 s).1 with held := none }) (by decide) (fun A => rfl) rfl)
    have O8 := Lib.hid ((O6.out.keep0 hS).far (p := ⟨b, 11, none⟩) hgb (.int .i64 (-1)))
    have K8 := Lib.hid ((K6.out.then hS).setCell (p := ⟨b, 11, none⟩) (fun _ => List.mem_cons_self) (.int .i64 (-1)))
    clear hF HCA HED E7 hS E6 O6 K6
    go_upto_region 7 with fail
    generalize w7.setCell ⟨b, 11, none⟩ (.int .i64 (-1)) = w8 at *
    clear c11 f11
    have hg0 : g1 ∉ b :: bs := fun hm => by
      rcases List.mem_cons.1 hm with hm | hm
      · omega
      · have := hbl.out g1 hm; omega
    go_wp2_with (first
      | (go_at_call 20; refine (HBG1.out _ _ E8.out).mono ?_; rintro _ w13 ⟨A13, p13, bs2, rfl, o13, E13, hb13, k13⟩)
      | (refine stop_at 60 rfl ?_))
    constructor
    have R13 := O8.out.keep k13 hg0
    have K13 := K8.out.trans k13 (fun y hy _ => hy)
    have hb13' : ∀ y ∈ bs2, y ∈ bs ∨ w.heap.size ≤ y := fun y hy => by
      rcases hb13 y hy with hy | hy
      · exact (fun _ hy => Or.inl hy : ∀ y ∈ bs, y ∈ bs ∨ w.heap.size ≤ y) y hy
      · exact .inr (Nat.le_trans K8.out.size hy)
    have hg2 : g1 ∉ bs2 := fun hm => by
      rcases hb13 g1 hm with hm | hm
      · exact hg0 (List.mem_cons_of_mem _ hm)
      · have := O8.out.lt; omega
    have hsz := K13.size
    have hmm := HMM.out
    refine wpList_append_reads rfl (.tmp 55) (.tmp 59) 39 rfl slice_news (own_news1 _ R13 hg1) rfl (Reads.of_own o13) rfl (newsV_one _) hsz (by omega) (by unfold maxLen; omega) ?_
    intro v14 w14 o14 k14 _
    obtain ⟨A14, p14, rfl⟩ := own_shape o14
    have RC := Lib.hid (RetE.cons HE.out E13 hb13' K13 hg1 hg2 o14 k14)
    clear o14 k14 o13 E13 k13 K13 R13 hb13 hb13' hg2
    go_wp2_with fail
    go_ret
    rw [HC.out]
    exact RC.out
end
end Go.Proofs.YteflgdnekflbbaaDoor

namespace Go.Proofs.YteflgdnekflbbaaDoor
open Go.RowKit
attribute [local go_sem] Oper.semAt_some

/-- What is behind Ask: the news, the error, and the engine. -/
def RetAsk (w : World) (b : Nat) (v : ImgV) (x : Img) (vc : CrtV) (c : Crt) (bs : List Nat) (r : EnS × List Nw × Int) (e : Ending) (w' : World) : Prop :=
  ∃ A p bs', e = .returned (.tuple #[.slice A r.2.1.length p, .int .i64 r.2.2]) ∧ w'.ownsRow w.heap.size 63 6 (.slice A r.2.1.length p) r.2.1.length (newsV r.2.1) ∧ EngAt w' b v x vc c r.1 bs' ∧ (∀ y ∈ bs', y ∈ bs ∨ w.heap.size ≤ y) ∧ Keep (b :: bs) w w'
section
variable {w : World} {b : Nat} {v : ImgV} {X : ChX} {vc : CrtV} {c : Crt} {s : EnS} {bs : List Nat} (h : EngAt w b v X.x vc c s bs)
include h
set_option maxRecDepth 100000 in
theorem eask_bad (m : Int) (live : Nat) (lb : Bool) (hm : m < 0 ∨ (X.x.modes.length : Int) ≤ m) :
    Calls Tryd.prog 6 #[.pointer (some ⟨b, 0, none⟩), .int .i64 m, .int .u32 (live : Int)] w (RetAsk w b v X.x vc c bs (askE X s m lb)) := by
  have HC : Hid (askE X s m lb = (s, [], 101)) := by show _ = _; unfold askE; rw [if_pos hm]
  have c2 := h.c2
  have hfin : Hid (RetAsk w b v X.x vc c bs (s, [], 101) (.returned (.tuple #[.slice none 0 0, .int .i64 101])) w) := ⟨none, 0, bs, rfl, World.ownsRow_nil _ _ _ _, h, fun y hy => .inl hy, Keep.refl _ _⟩
  clear h
  by_cases h0 : m < 0
  · clear hm c2
    go_enter Tryd.func6, Tryd.ntmps6
    go_wp2
    go_ret2
    rw [HC.out]
    exact hfin.out
  · have h1 : (X.x.modes.length : Int) ≤ m := by omega
    clear hm
    go_enter Tryd.func6, Tryd.ntmps6
    go_wp2
    go_ret2
    rw [HC.out]
    exact hfin.out
set_option maxRecDepth 100000 in
theorem eask_busy (m : Int) (live : Nat) (lb : Bool) (h0 : ¬ m < 0) (h1 : ¬ (X.x.modes.length : Int) ≤ m) {hd : Nat} (hh : s.held = some hd) :
    Calls Tryd.prog 6 #[.pointer (some ⟨b, 0, none⟩), .int .i64 m, .int .u32 (live : Int)] w (RetAsk w b v X.x vc c bs (askE X s m lb)) := by
  have HC : Hid (askE X s m lb = (s, [], 300)) := by show _ = _; unfold askE; rw [if_neg (by omega), if_pos (by rw [hh]; rfl)]
  have c2 := h.c2
  have c11 := h.c11
  rw [hh] at c11
  have c11' : w.cell? ⟨b, 11, none⟩ = some (.int .i64 (hd : Int)) := c11
  have p0 : (0 : Int) ≤ (hd : Int) := by omega
  have hfin : Hid (RetAsk w b v X.x vc c bs (s, [], 300) (.returned (.tuple #[.slice none 0 0, .int .i64 300])) w) := ⟨none, 0, bs, rfl, World.ownsRow_nil _ _ _ _, h, fun y hy => .inl hy, Keep.refl _ _⟩
  clear h c11
  go_enter Tryd.func6, Tryd.ntmps6
  go_wp2
  go_ret2
  rw [HC.out]
  exact hfin.out
set_option maxRecDepth 100000 in
theorem eask_go (m : Int) (live : Nat) (h0 : ¬ m < 0) (h1 : ¬ (X.x.modes.length : Int) ≤ m) (hh : s.held = none)
    (htg : ∀ w1, Keep [] w w1 → Calls Tryd.prog 19 #[.pointer (some ⟨b, 0, none⟩)] w1 fun e w' => e = .returned (.int .i64 (targetE X s : Int)) ∧ Keep [] w1 w')
    (hbeg : ∀ i w1 bs1, edgeAt X.x.edges (targetE X s : Int) m = some i → s.ph = 0 → EngAt w1 b v X.x vc c s bs1 →
      Calls Tryd.prog 20 #[.pointer (some ⟨b, 0, none⟩), .int .i64 (i : Int), .int .u32 (live : Int)] w1 (RetE w1 b v X.x vc c bs1 (beginE X s i (decide (live ≠ 0))))) :
    Calls Tryd.prog 6 #[.pointer (some ⟨b, 0, none⟩), .int .i64 m, .int .u32 (live : Int)] w (RetAsk w b v X.x vc c bs (askE X s m (decide (live ≠ 0)))) := by
  generalize decide (live ≠ 0) = lb at *
  have HCB : Hid (askE X s m lb = (match edgeAt X.x.edges (targetE X s : Int) m with
    | none => (s, [], 301)
    | some i => if s.ph ≠ 0 then ({ s with held := some m.toNat }, [], 0) else ((beginE X s i lb).1, (beginE X s i lb).2, 0))) := by
    show _ = _
    unfold askE
    rw [if_neg (by omega), if_neg (by rw [hh]; simp)]
    cases edgeAt X.x.edges (targetE X s : Int) m <;> rfl
  have c2 := h.c2
  have c11 := h.c11
  rw [hh] at c11
  have c11' : w.cell? ⟨b, 11, none⟩ = some (.int .i64 (-1)) := c11
  have HCA : ∀ w', Keep [] w w' → CellsAt w' b 0 (imgCells v X.x) := fun w' kk => (h.keep0 kk).ci
  have HED := fun w' (kk : Keep [] w w') => Lib.hid (edge_any v X.x (targetE X s : Int) m w' ((h.keep0 kk).im))
  have HTG := fun w' (kk : Keep [] w w') => Lib.hid (htg w' kk)
  have HIL : Hid ((imgCells v X.x).length = 4) := show _ = _ from rfl
  have HE := Lib.hid h
  have HBG := Lib.hid hbeg
  have hF : ∀ w', Keep [] w w' → True ∧ True := fun _ _ => ⟨trivial, trivial⟩
  clear h htg hbeg c11
  go_enter Tryd.func6, Tryd.ntmps6
  go_upto_region 5 with fail
  clear c2 c11'
  obtain ⟨rr, hrr⟩ : ∃ rr, edgeAt X.x.edges (targetE X s : Int) m = rr := ⟨_, rfl⟩
  simp only [hrr] at HED
  have HRR := Lib.hid hrr
  clear hrr
  generalize imgCells v X.x = il at *
  generalize (targetE X s : Int) = tg at *
  cases rr with
  | none =>
    have HC : Hid (askE X s m lb = (s, [], 301)) := by show _ = _; rw [HCB.out, HRR.out]
    clear HBG HCB
    refine wp_region_flow (Keep [] w) rfl (by kernel_rfl) (Keep.refl _ _).drew ?_
    (refine fl_val (v := ?_) (by rfl) ?_ ?_; rotate_left; (intro w' hS; obtain ⟨f1,f2⟩ := hF w' hS; go_simp; with_reducible rfl); simp only [Act.put, List.setIfInBounds_toArray, List.set_cons_zero, List.set_cons_succ])
    (refine fl_val (v := ?_) (by rfl) ?_ ?_; rotate_left; (intro w' hS; obtain ⟨f1,f2⟩ := hF w' hS; go_simp; with_reducible rfl); simp only [Act.put, List.setIfInBounds_toArray, List.set_cons_zero, List.set_cons_succ])
    (refine fl_val (v := ?_) (by rfl) ?_ ?_; rotate_left; (intro w' hS; obtain ⟨f1,f2⟩ := hF w' hS; go_simp; with_reducible rfl); simp only [Act.put, List.setIfInBounds_toArray, List.set_cons_zero, List.set_cons_succ])
    refine fl_agg 26 (.tmp 30) il rfl rfl rfl (by rw [HIL.out]; exact agg_image) HCA ?_
    simp only [Act.put, List.setIfInBounds_toArray, List.set_cons_zero, List.set_cons_succ]
    (refine fl_val (v := ?_) (by rfl) ?_ ?_; rotate_left; (intro w' hS; obtain ⟨f1,f2⟩ := hF w' hS; go_simp; with_reducible rfl); simp only [Act.put, List.setIfInBounds_toArray, List.set_cons_zero, List.set_cons_succ])
    refine fl_call (f := 19) (v := .int .i64 tg) (by rfl) rfl (by simp only [List.map_toArray, List.map_cons, List.map_nil]; rfl) Tryd.func19 (by kernel_rfl) (by kernel_rfl) (fun w' hS => ((HTG w' hS).out.mono (fun e w'' h => ⟨h.1, hS.then h.2⟩))) ?_; simp only [Act.put, List.setIfInBounds_toArray, List.set_cons_zero, List.set_cons_succ]
    (refine fl_val (v := ?_) (by rfl) ?_ ?_; rotate_left; (intro w' hS; obtain ⟨f1,f2⟩ := hF w' hS; go_simp; with_reducible rfl); simp only [Act.put, List.setIfInBounds_toArray, List.set_cons_zero, List.set_cons_succ])
    refine fl_call (f := 18) (v := .tuple #[.int .i64 0, .bool false]) (by rfl) rfl (by simp only [List.map_toArray, List.map_cons, List.map_nil]; rfl) Tryd.func18 (by kernel_rfl) (by kernel_rfl) (fun w' hS => ((HED w' hS).out.mono (fun e w'' h => ⟨h.1, hS.then h.2⟩))) ?_; simp only [Act.put, List.setIfInBounds_toArray, List.set_cons_zero, List.set_cons_succ]
    repeat (refine fl_val (v := ?_) (by rfl) ?_ ?_; rotate_left; (intro w' hS; obtain ⟨f1,f2⟩ := hF w' hS; go_simp; with_reducible rfl); simp only [Act.put, List.setIfInBounds_toArray, List.set_cons_zero, List.set_cons_succ])
    refine fl_nil ?_
    intro w7 hS
    have E7 := Lib.hid (HE.out.keep0 hS)
    have K7 := Lib.hid (hS.mono (G := b :: bs) (by simp))
    clear hF HCA HED HTG hS
    go_wp2
    go_ret2
    rw [HC.out]
    exact ⟨none, 0, bs, rfl, World.ownsRow_nil _ _ _ _, E7.out, fun y hy => .inl hy, K7.out⟩
  | some i =>
    refine wp_region_flow (Keep [] w) rfl (by kernel_rfl) (Keep.refl _ _).drew ?_
    (refine fl_val (v := ?_) (by rfl) ?_ ?_; rotate_left; (intro w' hS; obtain ⟨f1,f2⟩ := hF w' hS; go_simp; with_reducible rfl); simp only [Act.put, List.setIfInBounds_toArray, List.set_cons_zero, List.set_cons_succ])
    (refine fl_val (v := ?_) (by rfl) ?_ ?_; rotate_left; (intro w' hS; obtain ⟨f1,f2⟩ := hF w' hS; go_simp; with_reducible rfl); simp only [Act.put, List.setIfInBounds_toArray, List.set_cons_zero, List.set_cons_succ])
    (refine fl_val (v := ?_) (by rfl) ?_ ?_; rotate_left; (intro w' hS; obtain ⟨f1,f2⟩ := hF w' hS; go_simp; with_reducible rfl); simp only [Act.put, List.setIfInBounds_toArray, List.set_cons_zero, List.set_cons_succ])
    refine fl_agg 26 (.tmp 30) il rfl rfl rfl (by rw [HIL.out]; exact agg_image) HCA ?_
    simp only [Act.put, List.setIfInBounds_toArray, List.set_cons_zero, List.set_cons_succ]
    (refine fl_val (v := ?_) (by rfl) ?_ ?_; rotate_left; (intro w' hS; obtain ⟨f1,f2⟩ := hF w' hS; go_simp; with_reducible rfl); simp only [Act.put, List.setIfInBounds_toArray, List.set_cons_zero, List.set_cons_succ])
    refine fl_call (f := 19) (v := .int .i64 tg) (by rfl) rfl (by simp only [List.map_toArray, List.map_cons, List.map_nil]; rfl) Tryd.func19 (by kernel_rfl) (by kernel_rfl) (fun w' hS => ((HTG w' hS).out.mono (fun e w'' h => ⟨h.1, hS.then h.2⟩))) ?_; simp only [Act.put, List.setIfInBounds_toArray, List.set_cons_zero, List.set_cons_succ]
    (refine fl_val (v := ?_) (by rfl) ?_ ?_; rotate_left; (intro w' hS; obtain ⟨f1,f2⟩ := hF w' hS; go_simp; with_reducible rfl); simp only [Act.put, List.setIfInBounds_toArray, List.set_cons_zero, List.set_cons_succ])
    refine fl_call (f := 18) (v := .tuple #[.int .i64 (i : Int), .bool true]) (by rfl) rfl (by simp only [List.map_toArray, List.map_cons, List.map_nil]; rfl) Tryd.func18 (by kernel_rfl) (by kernel_rfl) (fun w' hS => ((HED w' hS).out.mono (fun e w'' h => ⟨h.1, hS.then h.2⟩))) ?_; simp only [Act.put, List.setIfInBounds_toArray, List.set_cons_zero, List.set_cons_succ]
    repeat (refine fl_val (v := ?_) (by rfl) ?_ ?_; rotate_left; (intro w' hS; obtain ⟨f1,f2⟩ := hF w' hS; go_simp; with_reducible rfl); simp only [Act.put, List.setIfInBounds_toArray, List.set_cons_zero, List.set_cons_succ])
    refine fl_nil ?_
    intro w7 hS
    have E7 := Lib.hid (HE.out.keep0 hS)
    have K7 := Lib.hid (hS.mono (G := b :: bs) (by simp))
    have c8 := E7.out.c8
    have c11 := E7.out.c11
    have f11 := E7.out.fr 11
    have hS0 := Lib.hid hS
    clear hF HCA HED HTG hS
    by_cases hp : s.ph = 0
    · have HC : Hid (askE X s m lb = ((beginE X s i lb).1, (beginE X s i lb).2, 0)) := by show _ = _; rw [HCB.out, HRR.out]; exact if_neg (fun hn => hn hp)
      have HB1 := fun w1 bs1 => Lib.hid (HBG.out i w1 bs1 HRR.out hp)
      rw [hp] at c8
      have c8' : w7.cell? ⟨b, 8, none⟩ = some (.int .i64 0) := c8
      clear HBG HCB c8 c11 f11 hp
      go_wp2_with (go_at_call 20; refine ((HB1 _ _).out E7.out).mono ?_; rintro _ w13 ⟨A, p, bs2, rfl, o, E13, hb13, k13⟩)
      go_ret2
      rw [HC.out]
      obtain ⟨A1, p1, bs1, q1, q2, q3, q4, q5⟩ := RetE.base hS0.out (⟨A, p, bs2, rfl, o, E13, hb13, k13⟩ : RetE w7 b v X.x vc c bs (beginE X s i lb) (.returned (.slice A (beginE X s i lb).2.length p)) w13)
      cases q1
      exact ⟨A, p, bs1, rfl, q2, q3, q4, q5⟩
    · have p0 : ¬ (s.ph : Int) = 0 := by omega
      have HC : Hid (askE X s m lb = ({ s with held := some m.toNat }, [], 0)) := by show _ = _; rw [HCB.out, HRR.out]; exact if_pos hp
      have hmm : ((m.toNat : Nat) : Int) = m := by omega
      have E8 := Lib.hid (E7.out.put (i := 11) (u := .int .i64 m) (s' := { s with held := some m.toNat }) (by decide) (fun A => by show _ = (engL v X.x vc c { s with held := some m.toNat } A).toArray; simp only [engL, optI, hmm]; rfl) rfl)
      have K8 := Lib.hid (K7.out.setCell (p := ⟨b, 11, none⟩) (fun _ => List.mem_cons_self) (.int .i64 m))
      clear HBG HCB hp hmm
      go_wp2
      go_ret2
      rw [HC.out]
      exact ⟨none, 0, bs, rfl, World.ownsRow_nil _ _ _ _, E8.out, fun y hy => .inl hy, K8.out⟩
end
end Go.Proofs.YteflgdnekflbbaaDoor

namespace Go.Proofs.YteflgdnekflbbaaDoor
open Go.RowKit

/-- A certificate of spans that are told. -/
structure ChM (X : ChX) (c : Crt) : Prop where
  g : ChG X
  len : c.edges.length = X.x.edges.length
  sp : ∀ k (hk : k < c.edges.length), c.edges[k] = ((X.la k : Int), (X.st k : Int))
theorem ChM.to {X : ChX} {c : Crt} (m : ChM X c) {k : Nat} (hk : k < X.x.edges.length) : (edg X.x k).to = (eTo X.x k : Int) := by
  have := (m.g.ft k hk).2.1
  unfold eTo
  omega
theorem ChM.prot {X : ChX} {c : Crt} (m : ChM X c) {k : Nat} (hk : k < X.x.edges.length) : (edg X.x k).prot = (ePr X.x k : Int) := by
  have := (m.g.pr k hk).1
  unfold ePr at *
  omega
theorem come0_len (X : ChX) (s : EnS) : (come0 X s).2.length ≤ 2 := by
  unfold come0 comeW over0
  dsimp only
  split <;> simp
theorem wait0_len (X : ChX) (s : EnS) (n : Nat) : (waitE (come0 X) s n).2.length ≤ 2 := by
  unfold waitE
  split
  · exact come0_len X s
  · simp
theorem begin_len (X : ChX) (s : EnS) (k : Nat) (l : Bool) : (beginE X s k l).2.length ≤ 3 := by
  have h0 := come0_len X
  have h1 := wait0_len X
  unfold beginE
  dsimp only
  split
  · split
    · simp
    · have := h0 { s with edge := some k, since := s.now, opn := 0, ph := 1 }
      simp only [List.length_cons]
      omega
  · split
    · have := h1 { s with edge := some k, since := s.now, opn := 0, ph := 2 } (X.la k)
      simp only [List.length_cons]
      omega
    · have := h1 (shiftE X.x k { s with edge := some k, since := s.now, opn := 0, ph := 3 }) (X.la k)
      simp only [List.length_cons]
      omega
theorem over1_len (X : ChX) (l : Bool) (s : EnS) : (over1 X l s).2.length ≤ 4 := by
  unfold over1
  split
  · simp [over0]
  · split
    · simp [over0]
    · rename_i i _
      have := begin_len X { (over0 s).1 with held := none } i l
      simp only [List.length_append]
      have h2 : (over0 s).2.length = 1 := rfl
      rw [h2]
      exact Nat.add_le_add_left this 1
section
variable {w : World} {b : Nat} {v : ImgV} {X : ChX} {vc : CrtV} {c : Crt} {s : EnS} {bs : List Nat} (m : ChM X c) (h : EngAt w b v X.x vc c s bs)
include m h
theorem ecome0_any {k : Nat} (he : s.edge = some k) (hk : k < X.x.edges.length) (hh : s.held = none) (htm : s.tm = []) (hpast : s.since ≤ s.now) (hnow : s.now < 4611686018427387904) (live : Nat) :
    Calls Tryd.prog 22 #[.pointer (some ⟨b, 0, none⟩), .int .u32 (live : Int)] w (RetE w b v X.x vc c bs (come0 X s)) :=
  ecome_any h he hk (by rw [m.len]; exact hk) (by rw [m.sp]) (m.g.st k) (m.to hk) htm hpast hnow live over0 (by simp [over0]) (fun w1 bs1 h1 => eover0_any h1 he hh live)
theorem ewait0_any {k : Nat} (he : s.edge = some k) (hk : k < X.x.edges.length) (hh : s.held = none) (htm : X.la k < 1 → s.tm = []) (h16 : 16 ∉ s.tm.map Prod.fst) (hl : s.tm.length < 64) (hpast : s.since ≤ s.now) (hnow : s.now < 4611686018427387904) (live : Nat) :
    Calls Tryd.prog 32 #[.pointer (some ⟨b, 0, none⟩), .agg #[.int .i64 (X.la k : Int), .int .i64 (X.st k : Int)], .int .u32 (live : Int)] w (RetE w b v X.x vc c bs (waitE (come0 X) s (X.la k))) :=
  ewait_any h (X.la k) (X.st k : Int) live (m.g.la k) h16 hl (come0 X) (fun hz w1 h1 => ecome0_any m h1 he hk hh (htm hz) hpast hnow live)
/-- What shift does. -/
def ShiftP (b : Nat) (v : ImgV) (X : ChX) (vc : CrtV) (c : Crt) (k : Nat) (s : EnS) : Prop :=
  ∀ w1 bs1, EngAt w1 b v X.x vc c s bs1 → Calls Tryd.prog 31 #[.pointer (some ⟨b, 0, none⟩)] w1 (fun e w' => e = .returned (.tuple #[]) ∧ ∃ bs', EngAt w' b v X.x vc c (shiftE X.x k s) bs' ∧ (∀ y ∈ bs', y ∈ bs1 ∨ w1.heap.size ≤ y) ∧ Keep (b :: bs1) w1 w')
theorem ebegin0_any {k : Nat} (hk : k < X.x.edges.length) (hh : s.held = none) (htm : s.tm = []) (hnow : s.now < 4611686018427387904) (live : Nat)
    (hsh : ePr X.x k = 3 → ShiftP b v X vc c k { s with edge := some k, since := s.now, opn := 0, ph := 3 }) :
    Calls Tryd.prog 20 #[.pointer (some ⟨b, 0, none⟩), .int .i64 (k : Int), .int .u32 (live : Int)] w (RetE w b v X.x vc c bs (beginE X s k (decide (live ≠ 0)))) := by
  have hp : ePr X.x k = 1 ∨ ePr X.x k = 2 ∨ ePr X.x k = 3 := by have := m.g.pr k hk; omega
  refine ebegin_any h hk (by rw [m.len]; exact hk) (by rw [m.sp]) (m.to hk) (m.prot hk) hp live
    (fun w1 bs1 h1 => ecome0_any m h1 rfl hk hh htm (Nat.le_refl _) hnow live)
    (fun w1 bs1 h1 => ewait0_any m h1 rfl hk hh (fun _ => htm) (by show 16 ∉ s.tm.map Prod.fst; rw [htm]; simp) (by show s.tm.length < 64; rw [htm]; decide) (Nat.le_refl _) hnow live)
    hsh
    (fun h3 w1 bs1 h1 => by
      obtain ⟨q1, q2, q3⟩ := shift_out m.g hk h3 { s with edge := some k, since := s.now, opn := 0, ph := 3 } htm rfl
      refine ewait0_any m h1 (k := k) (by rw [q2]) hk (by rw [q2]; exact hh) (fun hz => ?_) (fun hm => ?_) (by omega) (by rw [q2]; exact Nat.le_refl _) (by rw [q2]; exact hnow) live
      · rcases hL : (shiftE X.x k { s with edge := some k, since := s.now, opn := 0, ph := 3 }).tm with _ | ⟨p, l⟩
        · rfl
        · have := q1.pos p (by rw [hL]; simp)
          omega
      · obtain ⟨p, hp1, hp2⟩ := List.mem_map.1 hm
        have h4 := ((q1.mem p.1 p.2).1 hp1).1
        have := m.g.n16 k p.1 h4
        omega)
    (Nat.le_trans (come0_len _ _) (by decide)) (Nat.le_trans (wait0_len _ _ _) (by decide)) (Nat.le_trans (wait0_len _ _ _) (by decide))
/-- What shift does, at all edges. -/
def ShiftA (b : Nat) (v : ImgV) (X : ChX) (vc : CrtV) (c : Crt) : Prop :=
  ∀ i s', i < X.x.edges.length → ePr X.x i = 3 → s'.tm = [] → s'.opn = 0 → s'.edge = some i → ShiftP b v X vc c i s'
theorem eover_any (hS : ShiftA b v X vc c) {k : Nat} (he : s.edge = some k) (htm : s.tm = []) (hnow : s.now < 4611686018427387904) (live : Nat) :
    Calls Tryd.prog 23 #[.pointer (some ⟨b, 0, none⟩), .int .u32 (live : Int)] w (RetE w b v X.x vc c bs (over1 X (decide (live ≠ 0)) s)) := by
  cases hh : s.held with
  | none =>
    have e : over1 X (decide (live ≠ 0)) s = over0 s := by unfold over1; rw [hh]
    rw [e]
    exact eover0_any h he hh live
  | some hd =>
    refine eover1_any h he hh live (fun i w1 bs1 hi h1 => ?_) (fun i => Nat.le_trans (begin_len _ _ _ _) (by decide))
    obtain ⟨hk, _, _⟩ := edgeAt_is hi
    exact ebegin0_any m h1 hk rfl htm hnow live (fun h3 => hS i _ hk h3 htm rfl rfl)
theorem ecome1_any (hS : ShiftA b v X vc c) {k : Nat} (he : s.edge = some k) (hk : k < X.x.edges.length) (htm : s.tm = []) (hpast : s.since ≤ s.now) (hnow : s.now < 4611686018427387904) (live : Nat) :
    Calls Tryd.prog 22 #[.pointer (some ⟨b, 0, none⟩), .int .u32 (live : Int)] w (RetE w b v X.x vc c bs (come1 X (decide (live ≠ 0)) s)) :=
  ecome_any h he hk (by rw [m.len]; exact hk) (by rw [m.sp]) (m.g.st k) (m.to hk) htm hpast hnow live (over1 X (decide (live ≠ 0))) (Nat.le_trans (over1_len _ _ _) (by decide)) (fun w1 bs1 h1 => eover_any m h1 hS he htm hnow live)
theorem easkm_any (hS : ShiftA b v X vc c) (he : ∀ k, s.edge = some k → k < X.x.edges.length) (htm : s.ph = 0 → s.tm = []) (hnow : s.now < 4611686018427387904) (md : Int) (live : Nat) :
    Calls Tryd.prog 6 #[.pointer (some ⟨b, 0, none⟩), .int .i64 md, .int .u32 (live : Int)] w (RetAsk w b v X.x vc c bs (askE X s md (decide (live ≠ 0)))) := by
  by_cases h0 : md < 0
  · exact eask_bad h md live _ (.inl h0)
  by_cases h1 : (X.x.modes.length : Int) ≤ md
  · exact eask_bad h md live _ (.inr h1)
  cases hh : s.held with
  | some hd => exact eask_busy h md live _ h0 h1 hh
  | none =>
    refine eask_go h md live h0 h1 hh (fun w1 k1 => ?_) (fun i w1 bs1 hi hp h2 => ?_)
    · cases hed : s.edge with
      | none =>
        have e : targetE X s = s.mode := by unfold targetE tgt; rw [hed]
        rw [e]
        exact etarget0_any (h.keep0 k1) hed
      | some k =>
        have e : targetE X s = eTo X.x k := by unfold targetE tgt; rw [hed]
        rw [e, ← m.to (he k hed)]
        exact etarget1_any (h.keep0 k1) hed (he k hed)
    · obtain ⟨hk, _, _⟩ := edgeAt_is hi
      exact ebegin0_any m h2 hk hh (htm hp) hnow live (fun h3 => hS i _ hk h3 (htm hp) rfl rfl)
end
end Go.Proofs.YteflgdnekflbbaaDoor
