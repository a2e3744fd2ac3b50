/- The document on an image's certificate, the plain law: how long a change takes, what is known of a mode. No program in sight. No condition. The document on changes (layer 19): how long the change along an edge takes; is an image admitted (layer 21). Condition: small numbers; an edge of an image that may be. The document: is an image admitted (layer 21). No condition. -/
import Derived.Test.YtnnnjcgddmhdmaaGreatDoorCertF
import Derived.Test.YtnnnjcgddmhdmaaGreatDoorStLaw
import Derived.Test.YtnnnjcgddmhdmaaGreatDoorRef18M
namespace Go.Proofs.YtnnnjcgddmhdmaaGreatDoor
open Go.RowKit

theorem clsOf_from {f t : Nat} (hf : f < 4294967296) (ht : t < 4294967296) : (clsOf f t).from_ = f := by
  apply Nat.eq_of_testBit_eq
  intro i
  unfold Cls.from_ clsOf
  simp only [Nat.testBit_or, Nat.testBit_and, minusN_testBit _ _ _ hf ht]
  cases f.testBit i <;> cases t.testBit i <;> rfl
/-- The greatest period of the first n tasks of a set. -/
def longR (x : Img) (s n : Nat) : Int := longW x (lowL s n)
theorem longR_zero (x : Img) (s : Nat) : longR x s 0 = 0 := rfl
theorem longR_succ (x : Img) (s n : Nat) : longR x s (n + 1) = if s.testBit n = true then longStep x (longR x s n) n else longR x s n := by
  unfold longR
  rw [lowL_succ]
  split
  · rw [longW_snoc]
  · rw [List.append_nil]
/-- How long the change along an edge takes, and settles, by the document; is it known? -/
def edgeR (x : Img) (k f t : Nat) : (Int × Int) × Bool := match x.edges[k]? with
  | none => ((0, 0), false)
  | some e => if e.prot = 1 then (((rbusyM x f).getD 0, 0), (rbusyM x f).isSome)
    else if e.prot = 2 then ((longR x (f ||| t) x.tasks.length, 0), true)
    else ((spanR x f t e.offs).getD (0, 0), (spanR x f t e.offs).isSome)
theorem edge_same {x : Img} (hr : (chkImg x).2 = 0) (ho : x.Ok) (k : Nat) (hk : k < x.edges.length) : ∃ f t, EdgeIn x k f t ∧ f < 4294967296 ∧ t < 4294967296 ∧ edgeM x k = edgeR x k f t := by
  obtain ⟨f, t, he, hf, ht, hc, hT, hw, hwt⟩ := edge_w hr ho k hk
  have hs := small_of hr
  have hn := hs.n
  obtain ⟨_, hO⟩ := edge_offs hr ho k hk
  refine ⟨f, t, he, hf, ht, ?_⟩
  unfold edgeM edgeR
  rw [List.getElem?_eq_getElem hk]
  simp only
  rw [hc, hT, clsOf_from hf ht, clsOf_both hf ht, busy_same hs, span_same hs hf ht hw hO]
  unfold longR
  rw [bits_low _ x.tasks.length (by omega) hw]
/-- What is known of the first n tasks of a set. -/
def rowsR (x : Img) (s n : Nat) : List RowM := (lowL s n).map (rrow x s)
theorem rowsR_succ (x : Img) (s n : Nat) : rowsR x s (n + 1) = rowsR x s n ++ (if s.testBit n = true then [rrow x s n] else []) := by
  unfold rowsR
  rw [lowL_succ, List.map_append]
  split <;> rfl
theorem mode_in {x : Img} (hr : (chkImg x).2 = 0) (i : Nat) (hi : i < x.modes.length) : ∀ j, x.tasks.length ≤ j → x.modes[i].set.testBit j = false := by
  intro j hj
  cases e : x.modes[i].set.testBit j with
  | false => rfl
  | true => rw [← setOf10_get hi] at e; have := (right_of hr).set_lt (i : Int) j e; omega
theorem fit_same {x : Img} (hr : (chkImg x).2 = 0) (ho : x.Ok) (i : Nat) (hi : i < x.modes.length) :
    modeFit x i = decide (rmode x x.modes[i].set < 0) ∧ (modeFit x i = true → modeRows x i = rowsR x x.modes[i].set x.tasks.length) := by
  have hs := small_of hr
  have hq := ho.set _ (List.getElem_mem hi)
  have e := mode_same hs x.modes[i].set hq (mode_in hr i hi)
  unfold modeFit modeRows
  rw [setOf10_get hi, e, rmode_find x _ hs.n]
  cases rlate x x.modes[i].set x.tasks.length with
  | none => exact ⟨by simp, fun _ => rfl⟩
  | some j => exact ⟨by simp, fun h => by cases h⟩
end Go.Proofs.YtnnnjcgddmhdmaaGreatDoor

namespace Go.Proofs.YtnnnjcgddmhdmaaGreatDoor
open Go.RowKit

theorem cells_midF {w : World} {b f : Nat} {A B C : List Value} {cs : List Value} (h : CellsAt w b f cs) (e : cs = A ++ (B ++ C)) {n : Nat} (hn : A.length = n) : CellsAt w b (f + n) B := fun j u hu => by
  subst e hn
  have := h (A.length + j) u (by rw [List.getElem?_append_right (by omega), List.getElem?_append_left (by have := (List.getElem?_eq_some_iff.1 hu).1; omega)]; simpa using hu)
  rw [Nat.add_assoc]
  exact this
def edgeRes3 (r : (Int × Int) × Bool) : Value := .tuple #[.int .i64 r.1.1, .int .i64 r.1.2, .bool r.2]
set_option maxRecDepth 100000 in
set_option maxHeartbeats 3000000 in
theorem redge19_any (v : ImgV) (x : Img) (k f t : Nat) (w : World) (h : ImgAt w v x) (hk : k < x.edges.length) (he : EdgeIn x k f t) (hx : Small x) (hp : 1 ≤ x.edges[k].prot ∧ x.edges[k].prot ≤ 3) (hO : OffOk x.edges[k].offs) :
    Calls Tryz.prog 25 #[.agg (imgCells v x).toArray, .int .i64 (k : Int)] w fun e w' => e = .returned (edgeRes3 (edgeR x k f t)) ∧ Keep [] w w' := by
  have hl := h.le
  have hlt0 := h.lt
  unfold maxLen at hl hlt0
  have hn := hx.n
  have hft := he.t_lt h.ok
  have hff := he.f_lt h.ok
  have hor : f ||| t < 4294967296 := Nat.or_lt_two_pow (n := 32) hff hft
  have hor2 : bits .or .u32 (f : Int) (t : Int) = ((f ||| t : Nat) : Int) := u32_or_nat f t hff hft
  obtain ⟨W0, hW0⟩ : ∃ W0, w.alloc (.cells (imgCells v x).toArray 26) = W0 := ⟨_, rfl⟩
  have b0 : Blk W0 w.heap.size 26 (imgCells v x).toArray := by rw [← hW0]; exact img_box w v x
  have K0 : Keep [] w W0 := by rw [← hW0]; exact (Keep.refl [] w).alloc _
  have c3 : W0.cell? ⟨w.heap.size, 3, none⟩ = some (.slice v.ea x.edges.length v.ec) := img_c3 b0
  obtain ⟨b, o, hA, hbw, hcs⟩ := h.edge (by omega)
  rw [hA] at c3
  have hbw0 := Nat.lt_of_lt_of_le hbw K0.size
  have hct := (hcs k hk).keep0 K0 hbw
  have hcp := hct 2 (.int .i64 x.edges[k].prot) rfl
  have hco : CellsAt W0 b (o + k * 23 + 3) (iv x.edges[k].offs) := cells_midF (A := iv [x.edges[k].frm, x.edges[k].to, x.edges[k].prot]) (C := iv x.edges[k].mp) hct (by unfold edgCells edgInts iv; simp) rfl
  have HE3 : Hid (∀ w', Keep [] W0 w' → w'.cell? ⟨w.heap.size, 3, none⟩ = some (.slice (some ⟨b, o, none⟩) x.edges.length v.ec) ∧ w'.cell? ⟨b, o + k * 23 + 2, none⟩ = some (.int .i64 x.edges[k].prot)) := fun w' hk' =>
    ⟨(hk'.cell (p := ⟨w.heap.size, 3, none⟩) b0.lt (by simp)).trans c3, (hk'.cell (p := ⟨b, o + k * 23 + 2, none⟩) hbw0 (by simp)).trans hcp⟩
  have HE4 : Hid (∀ w', Keep [] W0 w' → CellsAt w' b (o + k * 23 + 3) (iv x.edges[k].offs)) := fun w' hk' => hco.keep0 hk' hbw0
  have HOC : Hid ((iv x.edges[k].offs).length = 16) := by show _ = _; rw [iv_len]; exact hO.1
  have HIC : Hid ((imgCells v x).length = 4) := show _ = _ from rfl
  have HC0 : Hid (∀ w', Keep [] W0 w' → CellsAt w' w.heap.size 0 (imgCells v x)) := fun w' hk => (b0.keep0 hk).cellsAt
  have HI1 : Hid (∀ w', Keep [] W0 w' → w'.cell? ⟨w.heap.size, 1, none⟩ = some (.slice v.ta x.tasks.length v.tc)) := fun w' hk => img_c1 (b0.keep0 hk)
  have HSe := fun w' (hk' : Keep [] W0 w') => Lib.hid (sets_any v x k f t w' (h.keep0 (K0.then hk')) he)
  have HBu := fun w' (hk' : Keep [] W0 w') => Lib.hid (rbusy_any v x f w' (h.keep0 (K0.then hk')) hff hn)
  have HHa := fun (i : Int) w' => Lib.hid (has10_any (f ||| t) i w' hor)
  have HGr := fun (a b : Int) w' => Lib.hid (greater_any a b w')
  have HSp := fun w' (hk' : Keep [] W0 w') => Lib.hid (rspan_any v x k f t x.edges[k].offs w' (h.keep0 (K0.then hk')) he hx hO)
  have HM : Hid (edgeR x k f t = if x.edges[k].prot = 1 then (((rbusyM x f).getD 0, 0), (rbusyM x f).isSome)
    else if x.edges[k].prot = 2 then ((longR x (f ||| t) x.tasks.length, 0), true)
    else ((spanR x f t x.edges[k].offs).getD (0, 0), (spanR x f t x.edges[k].offs).isSome)) := by
    show _ = _
    unfold edgeR
    rw [List.getElem?_eq_getElem hk]
  have q0 : decide ((k : Int) < 0) = false := decide_eq_false (by omega)
  have q1 : decide ((x.edges.length : Int) ≤ (k : Int)) = false := decide_eq_false (by omega)
  have q1n : decide (x.edges.length ≤ k) = false := decide_eq_false (by omega)
  have q2 : (0 : Int) ≤ (k : Int) := by omega
  have q3 : (k : Int) < (x.edges.length : Int) := by omega
  have HI := Lib.hid h
  have HW := Lib.hid hW0
  have HK0 := Lib.hid K0
  have HN := Lib.hid hn
  clear hW0 b0 hcs h hct hcp hco he hO c3 hA K0 hx
  generalize spanR x f t x.edges[k].offs = sp at *
  generalize rbusyM x f = bm at *
  generalize iv x.edges[k].offs = oc at *
  generalize x.edges[k].prot = pr at *
  generalize hil : imgCells v x = il at *
  have HIL := Lib.hid hil
  clear hil
  have hpr : pr = 1 ∨ pr = 2 ∨ pr = 3 := by omega
  rcases hpr with rfl | rfl | rfl
  · have HX : Hid (edgeRes3 (edgeR x k f t) = .tuple #[.int .i64 (bm.getD 0), .int .i64 0, .bool bm.isSome]) := by show _ = _; rw [HM.out, if_pos rfl]; rfl
    clear HM
    go_enter Tryz.func25, Tryz.ntmps25
    have c3 := (HE3.out W0 (Keep.refl _ _)).1
    go_wp2_with (first
      | rw [HW.out]
      | (refine wpList_load_agg rfl 26 (.tmp 2) rfl rfl (cs := il) (by rw [HIC.out]; exact agg_image) (HC0.out _ (Keep.refl _ _)) ?_))
    refine (HSe W0 (Keep.refl _ _)).out.mono ?_
    rintro e w1 ⟨rfl, k1⟩
    obtain ⟨c31, cp1⟩ := HE3.out w1 k1
    have hcA := Lib.hid (HC0.out w1 k1)
    have HB1 := HBu w1 k1
    rw [numRes_eq] at HB1
    have K1 := Lib.hid (HK0.out.then k1)
    clear k1 c3
    generalize bm.getD 0 = b1 at *
    generalize bm.isSome = b2 at *
    go_wp2_with (refine wpList_load_agg rfl 26 (.tmp 2) rfl rfl (cs := il) (by rw [HIC.out]; exact agg_image) hcA.out ?_)
    refine HB1.out.mono ?_
    rintro e w2 ⟨rfl, k2⟩
    go_wp2
    go_ret3
    exact ⟨by rw [HX.out]; rfl, K1.out.then k2⟩
  · have HX : Hid (edgeRes3 (edgeR x k f t) = .tuple #[.int .i64 (longR x (f ||| t) x.tasks.length), .int .i64 0, .bool true]) := by show _ = _; rw [HM.out, if_neg (by decide), if_pos rfl]; rfl
    clear HM
    go_enter Tryz.func25, Tryz.ntmps25
    have c3 := (HE3.out W0 (Keep.refl _ _)).1
    go_wp2_with (first
      | rw [HW.out]
      | (refine wpList_load_agg rfl 26 (.tmp 2) rfl rfl (cs := il) (by rw [HIC.out]; exact agg_image) (HC0.out _ (Keep.refl _ _)) ?_))
    refine (HSe W0 (Keep.refl _ _)).out.mono ?_
    rintro e w1 ⟨rfl, k1⟩
    obtain ⟨c31, cp1⟩ := HE3.out w1 k1
    have HK1 := Lib.hid k1
    have HZ0 : Hid (longR x (f ||| t) 0 = 0) := longR_zero x _
    have HZS := fun m => Lib.hid (longR_succ x (f ||| t) m)
    clear k1 c3 HSe HBu HSp
    go_wp2
    go_loopw [11, 12] (fun nv vi wr => ∃ m : Nat, m ≤ x.tasks.length ∧ vi = .int .i64 m ∧ nv = .int .i64 (longR x (f ||| t) m) ∧ Keep [] w1 wr) (fun _ vi _ => x.tasks.length - (intOf vi).toNat)
    case atStart => exact ⟨0, Nat.zero_le _, rfl, by rw [HZ0.out], Keep.refl _ _⟩
    case round =>
      clear c31 cp1
      obtain ⟨m, hm, rfl, rfl, hK⟩ := hrel
      have hK0 := HK1.out.then hK
      have ct := HI1.out wr hK0
      have hn := HN.out
      by_cases hlt : m < x.tasks.length
      · obtain ⟨bt, ot, hTA, hbt, hts⟩ := HI.out.task (by omega)
        have hpe := ((hts m hlt).keep0 (HK0.out.then hK0) hbt) 0 (.int .i64 x.tasks[m].per) rfl
        rw [Nat.add_zero] at hpe
        rw [hTA] at ct
        have p0 : (0 : Int) ≤ (m : Int) := by omega
        have p1 : (m : Int) < (x.tasks.length : Int) := by omega
        have p2 : decide ((m : Int) < (x.tasks.length : Int)) = true := decide_eq_true p1
        have HHm := HHa (m : Int)
        have hst := (HZS m).out
        have hls : longStep x (longR x (f ||| t) m) m = greatM (longR x (f ||| t) m) x.tasks[m].per := by unfold longStep; rw [List.getElem?_eq_getElem hlt, greatM_max]
        rw [hls] at hst
        rw [has10_nat (by omega)] at HHm
        have HST := Lib.hid hst
        have HKr := Lib.hid hK
        clear hts hst hls HHa hK hK0
        generalize longR x (f ||| t) m = z0 at *
        generalize x.tasks[m].per = z1 at *
        cases hb : (f ||| t).testBit m with
        | false =>
          rw [hb] at HHm
          have HX2 : Hid (longR x (f ||| t) (m + 1) = z0) := by show _ = _; rw [HST.out, hb]; rfl
          clear HST
          go_wp2_with (refine (HHm _).out.mono ?_; rintro e w3 ⟨rfl, rfl⟩)
          go_roundw
          case rel => exact ⟨m + 1, by omega, by go_num, by rw [HX2.out], HKr.out⟩
          case measure => simp [intOf] <;> omega
        | true =>
          rw [hb] at HHm
          have HX2 : Hid (longR x (f ||| t) (m + 1) = greatM z0 z1) := by show _ = _; rw [HST.out, hb]; rfl
          clear HST
          go_wp2_with (first
            | (refine (HHm _).out.mono ?_; rintro e w3 ⟨rfl, rfl⟩)
            | (refine (HGr _ _ _).out.mono ?_; rintro e w4 ⟨rfl, rfl⟩))
          go_roundw
          case rel => exact ⟨m + 1, by omega, by go_num, by rw [HX2.out], HKr.out⟩
          case measure => simp [intOf] <;> omega
      · obtain rfl : m = x.tasks.length := by omega
        have p2 : decide ((x.tasks.length : Int) < (x.tasks.length : Int)) = false := by simp
        have HKr := Lib.hid hK0
        clear HHa hK hK0
        go_wp2
        go_ret3
        exact ⟨by rw [HX.out]; rfl, HK0.out.then HKr.out⟩
  · have HX : Hid (edgeRes3 (edgeR x k f t) = tripRes sp) := by show _ = _; rw [HM.out, if_neg (by decide), if_neg (by decide)]; rfl
    clear HM
    go_enter Tryz.func25, Tryz.ntmps25
    have c3 := (HE3.out W0 (Keep.refl _ _)).1
    go_wp2_with (first
      | rw [HW.out]
      | (refine wpList_load_agg rfl 26 (.tmp 2) rfl rfl (cs := il) (by rw [HIC.out]; exact agg_image) (HC0.out _ (Keep.refl _ _)) ?_))
    refine (HSe W0 (Keep.refl _ _)).out.mono ?_
    rintro e w1 ⟨rfl, k1⟩
    obtain ⟨c31, cp1⟩ := HE3.out w1 k1
    have HCI : ∀ w', Keep [] w1 w' → CellsAt w' w.heap.size 0 il := fun w' hk' => HC0.out w' (k1.then hk')
    have HCO : ∀ w', Keep [] w1 w' → CellsAt w' b (o + k * 23 + 3) oc := fun w' hk' => HE4.out w' (k1.then hk')
    have HF := fun w' (hk' : Keep [] w1 w') => HE3.out w' (k1.then hk')
    have HSp1 := fun w' (hk' : Keep [] w1 w') => HSp w' (k1.then hk')
    have HK1 := Lib.hid (HK0.out.then k1)
    clear k1 c3 HSe HBu HSp HC0 HE3 HE4 HGr HHa
    go_wp2
    refine ap_begin 14 (Keep [] w1) rfl (Keep.refl _ _).drew (fun hS hPan => ?_) (fun _ _ d _ _ h => by cases d <;> exact h)
    refine ap_agg 0 26 (.tmp 2) il rfl (by kernel_rfl) (by kernel_rfl) (by kernel_rfl) (by kernel_rfl) (by rfl) hPan rfl rfl (by rw [HIC.out]; exact agg_image) HCI hS ?_
    (simp only [Act.put, List.setIfInBounds_toArray, List.set_cons_zero, List.set_cons_succ])
    (refine ap_val (v := ?_) 1 rfl (by kernel_rfl) (by kernel_rfl) (by kernel_rfl) (by kernel_rfl) (by rfl) hPan ?_ hS ?_; rotate_left; (intro w' hSw; go_simp; try with_reducible rfl); simp only [Act.put, List.setIfInBounds_toArray, List.set_cons_zero, List.set_cons_succ])
    (refine ap_val (v := ?_) 2 rfl (by kernel_rfl) (by kernel_rfl) (by kernel_rfl) (by kernel_rfl) (by rfl) hPan ?_ hS ?_; rotate_left; (intro w' hSw; go_simp; try with_reducible rfl); simp only [Act.put, List.setIfInBounds_toArray, List.set_cons_zero, List.set_cons_succ])
    (refine ap_val (v := ?_) 3 rfl (by kernel_rfl) (by kernel_rfl) (by kernel_rfl) (by kernel_rfl) (by rfl) hPan ?_ hS ?_; rotate_left; (intro w' hSw; obtain ⟨g1,g2⟩ := HF w' hSw; go_simp; try with_reducible rfl); simp only [Act.put, List.setIfInBounds_toArray, List.set_cons_zero, List.set_cons_succ])
    (refine ap_val (v := ?_) 4 rfl (by kernel_rfl) (by kernel_rfl) (by kernel_rfl) (by kernel_rfl) (by rfl) hPan ?_ hS ?_; rotate_left; (intro w' hSw; go_simp; try with_reducible rfl); simp only [Act.put, List.setIfInBounds_toArray, List.set_cons_zero, List.set_cons_succ])
    (refine ap_val (v := ?_) 5 rfl (by kernel_rfl) (by kernel_rfl) (by kernel_rfl) (by kernel_rfl) (by rfl) hPan ?_ hS ?_; rotate_left; (intro w' hSw; go_simp; try with_reducible rfl); simp only [Act.put, List.setIfInBounds_toArray, List.set_cons_zero, List.set_cons_succ])
    (refine ap_val (v := ?_) 6 rfl (by kernel_rfl) (by kernel_rfl) (by kernel_rfl) (by kernel_rfl) (by rfl) hPan ?_ hS ?_; rotate_left; (intro w' hSw; go_simp; try with_reducible rfl); simp only [Act.put, List.setIfInBounds_toArray, List.set_cons_zero, List.set_cons_succ])
    refine ap_agg 7 47 (.tmp 73) oc rfl (by kernel_rfl) (by kernel_rfl) (by kernel_rfl) (by kernel_rfl) (by rfl) hPan rfl rfl (by rw [HOC.out]; exact agg_offs) HCO hS ?_
    (simp only [Act.put, List.setIfInBounds_toArray, List.set_cons_zero, List.set_cons_succ])
    refine ap_one 8 (by kernel_rfl) ?_
    refine op_call (f := 39) 8 rfl (by rfl) rfl (by simp only [List.map_toArray, List.map_cons, List.map_nil]; rfl) Tryz.func39 (by kernel_rfl) (by kernel_rfl) (HSp1 _ hS).out ?_
    rintro e w6 ⟨rfl, k6⟩
    replace hS := hS.then k6
    refine ⟨_, rfl, fun _ => hS, ?_⟩
    clear k6
    rw [show tripRes sp = .tuple #[.int .i64 (sp.getD (0, 0)).1, .int .i64 (sp.getD (0, 0)).2, .bool sp.isSome] from rfl] at HX ⊢
    generalize (sp.getD (0, 0)).1 = s1 at *
    generalize (sp.getD (0, 0)).2 = s2 at *
    generalize sp.isSome = s3 at *
    (simp only [Act.put, List.setIfInBounds_toArray, List.set_cons_zero, List.set_cons_succ])
    (refine ap_val (v := ?_) 9 rfl (by kernel_rfl) (by kernel_rfl) (by kernel_rfl) (by kernel_rfl) (by rfl) hPan ?_ hS ?_; rotate_left; (intro w' hSw; go_simp; try with_reducible rfl); simp only [Act.put, List.setIfInBounds_toArray, List.set_cons_zero, List.set_cons_succ])
    (refine ap_val (v := ?_) 10 rfl (by kernel_rfl) (by kernel_rfl) (by kernel_rfl) (by kernel_rfl) (by rfl) hPan ?_ hS ?_; rotate_left; (intro w' hSw; go_simp; try with_reducible rfl); simp only [Act.put, List.setIfInBounds_toArray, List.set_cons_zero, List.set_cons_succ])
    (refine ap_val (v := ?_) 11 rfl (by kernel_rfl) (by kernel_rfl) (by kernel_rfl) (by kernel_rfl) (by rfl) hPan ?_ hS ?_; rotate_left; (intro w' hSw; go_simp; try with_reducible rfl); simp only [Act.put, List.setIfInBounds_toArray, List.set_cons_zero, List.set_cons_succ])
    (refine ap_val (v := ?_) 12 rfl (by kernel_rfl) (by kernel_rfl) (by kernel_rfl) (by kernel_rfl) (by rfl) hPan ?_ hS ?_; rotate_left; (intro w' hSw; go_simp; try with_reducible rfl); simp only [Act.put, List.setIfInBounds_toArray, List.set_cons_zero, List.set_cons_succ])
    (refine ap_val (v := ?_) 13 rfl (by kernel_rfl) (by kernel_rfl) (by kernel_rfl) (by kernel_rfl) (by rfl) hPan ?_ hS ?_; rotate_left; (intro w' hSw; go_simp; try with_reducible rfl); simp only [Act.put, List.setIfInBounds_toArray, List.set_cons_zero, List.set_cons_succ])
    refine ap_one 14 (by kernel_rfl) ?_
    refine op_run (v := .bool s3) (w' := w6) 14 rfl (by rfl) (by go_simp) ?_
    refine ⟨fun _ => hS, ap_done (by kernel_rfl) ?_ _⟩
    (simp only [Act.put, List.setIfInBounds_toArray, List.set_cons_zero, List.set_cons_succ])
    have HKe := Lib.hid (HK1.out.then hS)
    clear hS hPan
    go_wp2
    go_ret3
    exact ⟨by rw [HX.out]; rfl, HKe.out⟩
end Go.Proofs.YtnnnjcgddmhdmaaGreatDoor

namespace Go.Proofs.YtnnnjcgddmhdmaaGreatDoor
open Go.RowKit

/-- An edge of an image that may be: the document says what the program does. -/
theorem redgeM_any (v : ImgV) (x : Img) (k : Nat) (w : World) (h : ImgAt w v x) (hr : (chkImg x).2 = 0) (hk : k < x.edges.length) :
    Calls Tryz.prog 25 #[.agg (imgCells v x).toArray, .int .i64 (k : Int)] w fun e w' => e = .returned (edgeRes3 (edgeM x k)) ∧ Keep [] w w' := by
  obtain ⟨f, t, he, hf, ht, e⟩ := edge_same hr h.ok k hk
  rw [e]
  obtain ⟨hp, hO⟩ := edge_offs hr h.ok k hk
  exact redge19_any v x k f t w h hk he (small_of hr) hp hO
set_option maxRecDepth 100000 in
set_option maxHeartbeats 3000000 in
theorem radmit_any (v : ImgV) (x : Img) (w : World) (h : ImgAt w v x) :
    Calls Tryz.prog 20 #[.agg (imgCells v x).toArray] w fun e w' => e = .returned (.tuple #[.int .i64 (admM x).2.1, .int .i64 (admM x).2.2]) ∧ Keep [] w w' := by
  have hle := h.le
  have hlm := h.lm
  unfold maxLen at hle hlm
  obtain ⟨W0, hW0⟩ : ∃ W0, w.alloc (.cells (imgCells v x).toArray 26) = W0 := ⟨_, rfl⟩
  have b0 : Blk W0 w.heap.size 26 (imgCells v x).toArray := by rw [← hW0]; exact img_box w v x
  have K0 : Keep [] w W0 := by rw [← hW0]; exact (Keep.refl [] w).alloc _
  have HIC : Hid ((imgCells v x).length = 4) := show _ = _ from rfl
  have HC := Lib.hid (rcheck_any v x W0 (h.keep0 K0))
  have HCI := fun w' (k : Keep [] W0 w') => Lib.hid ((b0.keep0 k).cellsAt)
  have HI2 : Hid (∀ w', Keep [] W0 w' → w'.cell? ⟨w.heap.size, 2, none⟩ = some (.slice v.ma x.modes.length v.mc) ∧ w'.cell? ⟨w.heap.size, 3, none⟩ = some (.slice v.ea x.edges.length v.ec)) := fun w' hk => ⟨img_c2 (b0.keep0 hk), img_c3 (b0.keep0 hk)⟩
  have HMo := fun (hs : Small x) (i : Nat) (hi : i < x.modes.length) w' (k : Keep [] W0 w') => Lib.hid (rmode_any v x x.modes[i].set w' (h.keep0 (K0.then k)) (h.ok.set _ (List.getElem_mem hi)) hs)
  have HEd := fun (hr : (chkImg x).2 = 0) (i : Nat) (hi : i < x.edges.length) w' (k : Keep [] W0 w') => Lib.hid (redgeM_any v x i w' (h.keep0 (K0.then k)) hr hi)
  have HFi : Hid ((chkImg x).2 = 0 → ∀ i, (hi : i < x.modes.length) → modeFit x i = decide (rmode x x.modes[i].set < 0)) := fun hr i hi => (fit_same hr h.ok i hi).1
  have HA0 : Hid (¬ (chkImg x).2 = 0 → admM x = (noCrt, (chkImg x).1, (chkImg x).2)) := fun h => admM_bad h
  have HA1 : Hid ((chkImg x).2 = 0 → ∀ i, firstNot (modeFit x) x.modes.length = some i → admM x = (noCrt, (i : Int), 180)) := fun h i => admM_mode h
  have HA2 : Hid ((chkImg x).2 = 0 → firstNot (modeFit x) x.modes.length = none → ∀ i, firstNot (fun i => (edgeM x i).2) x.edges.length = some i → admM x = (noCrt, (i : Int), 190)) := fun h hm i => admM_edge h hm
  have HA3 : Hid ((chkImg x).2 = 0 → firstNot (modeFit x) x.modes.length = none → firstNot (fun i => (edgeM x i).2) x.edges.length = none → admM x = (fullCrt x, 0, 0)) := fun h => admM_full h
  have hso : (chkImg x).2 = 0 → Small x := small_of
  have HI := Lib.hid h
  have HK0 := Lib.hid K0
  have HW := Lib.hid hW0
  clear h K0 hW0 b0
  generalize imgCells v x = il at *
  generalize chkImg x = cr at *
  obtain ⟨c1, c2⟩ := cr
  by_cases hc : c2 = 0
  · subst hc
    replace HMo := HMo (hso rfl)
    replace HEd := HEd rfl
    replace HFi := Lib.hid (HFi.out rfl)
    replace HA1 := Lib.hid (HA1.out rfl)
    replace HA2 := Lib.hid (HA2.out rfl)
    replace HA3 := Lib.hid (HA3.out rfl)
    clear HA0 hso
    go_enter Tryz.func20, Tryz.ntmps20
    go_wp2_with (first
      | rw [HW.out]
      | (refine wpList_load_agg rfl 26 (.tmp 1) rfl rfl (cs := il) (by rw [HIC.out]; exact agg_image) (HCI _ (Keep.refl _ _)).out ?_))
    refine HC.out.mono ?_
    rintro e w1 ⟨rfl, k1⟩
    rw [chkRes]
    have HK1 := Lib.hid k1
    clear k1
    go_wp2
    go_loopw [6] (fun vi wr => ∃ k : Nat, k ≤ x.modes.length ∧ vi = .int .i64 (k : Int) ∧ Keep [] w1 wr ∧ ∀ i, i < k → modeFit x i = true) (fun i _ => x.modes.length - (intOf i).toNat)
    case atStart => exact ⟨0, Nat.zero_le _, rfl, Keep.refl _ _, fun i hi => absurd hi (Nat.not_lt_zero _)⟩
    case round =>
      obtain ⟨k, hk, rfl, hK, hF⟩ := hrel
      have KR : Keep [] W0 wr := HK1.out.then hK
      by_cases hlt : k < x.modes.length
      · obtain ⟨bm, om, hM, hbm, hcm⟩ := HI.out.mode (by omega)
        obtain ⟨_, _, hm1, _⟩ := hcm k hlt
        have m1 := (hm1.keep0 HK0.out hbm) 0 _ rfl
        have hbm0 := Nat.lt_of_lt_of_le hbm HK0.out.size
        rw [Nat.add_zero] at m1
        have HCr : ∀ w', Keep [] wr w' → CellsAt w' w.heap.size 0 il := fun w' hk' => (HCI w' (KR.then hk')).out
        have HF2 : ∀ w', Keep [] wr w' → w'.cell? ⟨w.heap.size, 2, none⟩ = some (.slice (some ⟨bm, om, none⟩) x.modes.length v.mc) ∧ w'.cell? ⟨bm, om + k * 2, none⟩ = some (.int .u32 (x.modes[k].set : Int)) := fun w' hk' => by
          have a := (HI2.out w' (KR.then hk')).1
          rw [hM] at a
          exact ⟨a, ((KR.then hk').cell (p := ⟨bm, om + k * 2, none⟩) hbm0 (by simp)).trans m1⟩
        have cm := (HF2 wr (Keep.refl _ _)).1
        have HMk := fun w' (hk' : Keep [] wr w') => HMo k hlt w' (KR.then hk')
        have hfi := HFi.out k hlt
        have p0 : (0 : Int) ≤ (k : Int) := by omega
        have p1 : (k : Int) < (x.modes.length : Int) := by omega
        have p2 : decide ((k : Int) < (x.modes.length : Int)) = true := decide_eq_true p1
        have HKr := Lib.hid hK
        have HKR := Lib.hid KR
        have HFL := Lib.hid hF
        clear hcm hm1 m1 hK hF KR HCI HMo HFi
        generalize rmode x x.modes[k].set = rm at *
        generalize x.modes[k].set = st at *
        have HFt := Lib.hid hfi
        clear hfi
        rcases Int.lt_or_le rm 0 with h1 | h1
        · have hd : decide (0 ≤ rm) = false := decide_eq_false (by omega)
          have HX : Hid (modeFit x k = true) := by show _ = _; rw [HFt.out]; exact decide_eq_true h1
          clear HFt
          go_wp2
          refine ap_begin 8 (Keep [] wr) rfl (Keep.refl _ _).drew (fun hS hPan => ?_) (fun _ _ d _ _ h => by cases d <;> exact h)
          refine ap_agg 0 26 (.tmp 1) il rfl (by kernel_rfl) (by kernel_rfl) (by kernel_rfl) (by kernel_rfl) (by rfl) hPan rfl rfl (by rw [HIC.out]; exact agg_image) HCr hS ?_
          (simp only [Act.put, List.setIfInBounds_toArray, List.set_cons_zero, List.set_cons_succ])
          (refine ap_val (v := ?_) 1 rfl (by kernel_rfl) (by kernel_rfl) (by kernel_rfl) (by kernel_rfl) (by rfl) hPan ?_ hS ?_; rotate_left; (intro w' hSw; go_simp; try with_reducible rfl); simp only [Act.put, List.setIfInBounds_toArray, List.set_cons_zero, List.set_cons_succ])
          (refine ap_val (v := ?_) 2 rfl (by kernel_rfl) (by kernel_rfl) (by kernel_rfl) (by kernel_rfl) (by rfl) hPan ?_ hS ?_; rotate_left; (intro w' hSw; obtain ⟨g1,g2⟩ := HF2 w' hSw; go_simp; try with_reducible rfl); simp only [Act.put, List.setIfInBounds_toArray, List.set_cons_zero, List.set_cons_succ])
          (refine ap_val (v := ?_) 3 rfl (by kernel_rfl) (by kernel_rfl) (by kernel_rfl) (by kernel_rfl) (by rfl) hPan ?_ hS ?_; rotate_left; (intro w' hSw; go_simp; try with_reducible rfl); simp only [Act.put, List.setIfInBounds_toArray, List.set_cons_zero, List.set_cons_succ])
          (refine ap_val (v := ?_) 4 rfl (by kernel_rfl) (by kernel_rfl) (by kernel_rfl) (by kernel_rfl) (by rfl) hPan ?_ hS ?_; rotate_left; (intro w' hSw; go_simp; try with_reducible rfl); simp only [Act.put, List.setIfInBounds_toArray, List.set_cons_zero, List.set_cons_succ])
          (refine ap_val (v := ?_) 5 rfl (by kernel_rfl) (by kernel_rfl) (by kernel_rfl) (by kernel_rfl) (by rfl) hPan ?_ hS ?_; rotate_left; (intro w' hSw; go_simp; try with_reducible rfl); simp only [Act.put, List.setIfInBounds_toArray, List.set_cons_zero, List.set_cons_succ])
          (refine ap_val (v := ?_) 6 rfl (by kernel_rfl) (by kernel_rfl) (by kernel_rfl) (by kernel_rfl) (by rfl) hPan ?_ hS ?_; rotate_left; (intro w' hSw; obtain ⟨g1,g2⟩ := HF2 w' hSw; go_simp; try with_reducible rfl); simp only [Act.put, List.setIfInBounds_toArray, List.set_cons_zero, List.set_cons_succ])
          refine ap_one 7 (by kernel_rfl) ?_
          refine op_call (f := 24) (vs := #[.agg il.toArray, .int .u32 (st : Int)]) 7 rfl (by rfl) rfl (by simp only [List.map_toArray, List.map_cons, List.map_nil]; rfl) Tryz.func24 (by kernel_rfl) (by kernel_rfl) (HMk _ hS).out ?_
          rintro e w6 ⟨rfl, k6⟩
          replace hS := hS.then k6
          refine ⟨_, rfl, fun _ => hS, ?_⟩
          clear k6
          (simp only [Act.put, List.setIfInBounds_toArray, List.set_cons_zero, List.set_cons_succ])
          refine ap_one 8 (by kernel_rfl) ?_
          refine op_run (v := .bool false) (w' := w6) 8 rfl (by rfl) (by go_simp) ?_
          refine ⟨fun _ => hS, ap_done (by kernel_rfl) ?_ _⟩
          (simp only [Act.put, List.setIfInBounds_toArray, List.set_cons_zero, List.set_cons_succ])
          have HKe := Lib.hid (HKr.out.then hS)
          clear hS hPan
          go_wp2
          go_roundw
          case rel => exact ⟨k + 1, by omega, by go_num, HKe.out, fun i hi => by
            by_cases hik : i < k
            · exact HFL.out i hik
            · obtain rfl : i = k := by omega
              exact HX.out⟩
          case measure => simp [intOf] <;> omega
        · have hd : decide (0 ≤ rm) = true := decide_eq_true h1
          have HX : Hid (admM x = (noCrt, (k : Int), 180)) := HA1.out k (firstNot_some hlt (by rw [HFt.out]; exact decide_eq_false (by omega)) HFL.out)
          clear HFt
          go_wp2
          refine ap_begin 8 (Keep [] wr) rfl (Keep.refl _ _).drew (fun hS hPan => ?_) (fun _ _ d _ _ h => by cases d <;> exact h)
          refine ap_agg 0 26 (.tmp 1) il rfl (by kernel_rfl) (by kernel_rfl) (by kernel_rfl) (by kernel_rfl) (by rfl) hPan rfl rfl (by rw [HIC.out]; exact agg_image) HCr hS ?_
          (simp only [Act.put, List.setIfInBounds_toArray, List.set_cons_zero, List.set_cons_succ])
          (refine ap_val (v := ?_) 1 rfl (by kernel_rfl) (by kernel_rfl) (by kernel_rfl) (by kernel_rfl) (by rfl) hPan ?_ hS ?_; rotate_left; (intro w' hSw; go_simp; try with_reducible rfl); simp only [Act.put, List.setIfInBounds_toArray, List.set_cons_zero, List.set_cons_succ])
          (refine ap_val (v := ?_) 2 rfl (by kernel_rfl) (by kernel_rfl) (by kernel_rfl) (by kernel_rfl) (by rfl) hPan ?_ hS ?_; rotate_left; (intro w' hSw; obtain ⟨g1,g2⟩ := HF2 w' hSw; go_simp; try with_reducible rfl); simp only [Act.put, List.setIfInBounds_toArray, List.set_cons_zero, List.set_cons_succ])
          (refine ap_val (v := ?_) 3 rfl (by kernel_rfl) (by kernel_rfl) (by kernel_rfl) (by kernel_rfl) (by rfl) hPan ?_ hS ?_; rotate_left; (intro w' hSw; go_simp; try with_reducible rfl); simp only [Act.put, List.setIfInBounds_toArray, List.set_cons_zero, List.set_cons_succ])
          (refine ap_val (v := ?_) 4 rfl (by kernel_rfl) (by kernel_rfl) (by kernel_rfl) (by kernel_rfl) (by rfl) hPan ?_ hS ?_; rotate_left; (intro w' hSw; go_simp; try with_reducible rfl); simp only [Act.put, List.setIfInBounds_toArray, List.set_cons_zero, List.set_cons_succ])
          (refine ap_val (v := ?_) 5 rfl (by kernel_rfl) (by kernel_rfl) (by kernel_rfl) (by kernel_rfl) (by rfl) hPan ?_ hS ?_; rotate_left; (intro w' hSw; go_simp; try with_reducible rfl); simp only [Act.put, List.setIfInBounds_toArray, List.set_cons_zero, List.set_cons_succ])
          (refine ap_val (v := ?_) 6 rfl (by kernel_rfl) (by kernel_rfl) (by kernel_rfl) (by kernel_rfl) (by rfl) hPan ?_ hS ?_; rotate_left; (intro w' hSw; obtain ⟨g1,g2⟩ := HF2 w' hSw; go_simp; try with_reducible rfl); simp only [Act.put, List.setIfInBounds_toArray, List.set_cons_zero, List.set_cons_succ])
          refine ap_one 7 (by kernel_rfl) ?_
          refine op_call (f := 24) (vs := #[.agg il.toArray, .int .u32 (st : Int)]) 7 rfl (by rfl) rfl (by simp only [List.map_toArray, List.map_cons, List.map_nil]; rfl) Tryz.func24 (by kernel_rfl) (by kernel_rfl) (HMk _ hS).out ?_
          rintro e w6 ⟨rfl, k6⟩
          replace hS := hS.then k6
          refine ⟨_, rfl, fun _ => hS, ?_⟩
          clear k6
          (simp only [Act.put, List.setIfInBounds_toArray, List.set_cons_zero, List.set_cons_succ])
          refine ap_one 8 (by kernel_rfl) ?_
          refine op_run (v := .bool true) (w' := w6) 8 rfl (by rfl) (by go_simp) ?_
          refine ⟨fun _ => hS, ap_done (by kernel_rfl) ?_ _⟩
          (simp only [Act.put, List.setIfInBounds_toArray, List.set_cons_zero, List.set_cons_succ])
          have HKe := Lib.hid (HKR.out.then hS)
          clear hS hPan
          go_wp2
          go_ret2
          exact ⟨by rw [HX.out]; rfl, HK0.out.then HKe.out⟩
      · obtain rfl : k = x.modes.length := by omega
        have c2 := (HI2.out wr KR).1
        have p2 : decide ((x.modes.length : Int) < (x.modes.length : Int)) = false := by simp
        have HNM : Hid (firstNot (modeFit x) x.modes.length = none) := firstNot_none hF
        replace HA2 := Lib.hid (HA2.out HNM.out)
        replace HA3 := Lib.hid (HA3.out HNM.out)
        have HKR := Lib.hid KR
        clear hF hK KR HMo HFi HA1
        obtain ⟨wo, hwo⟩ : ∃ wo : World, wo = wr := ⟨_, rfl⟩
        subst hwo
        go_wp2
        go_loopw [7] (fun vi wr2 => ∃ k : Nat, k ≤ x.edges.length ∧ vi = .int .i64 (k : Int) ∧ Keep [] wo wr2 ∧ ∀ i, i < k → (edgeM x i).2 = true) (fun i _ => x.edges.length - (intOf i).toNat)
        case atStart => exact ⟨0, Nat.zero_le _, rfl, Keep.refl _ _, fun i hi => absurd hi (Nat.not_lt_zero _)⟩
        case round =>
          clear c2 p2
          obtain ⟨k, hk, rfl, hK, hF⟩ := hrel
          have KR : Keep [] W0 wr := HKR.out.then hK
          have c3 := (HI2.out wr KR).2
          by_cases hlt : k < x.edges.length
          · have HEk := HEd k hlt wr KR
            have HCr := HCI wr KR
            have p0 : (0 : Int) ≤ (k : Int) := by omega
            have p1 : (k : Int) < (x.edges.length : Int) := by omega
            have p2 : decide ((k : Int) < (x.edges.length : Int)) = true := decide_eq_true p1
            have HKr := Lib.hid hK
            have HKR2 := Lib.hid KR
            have HFL := Lib.hid hF
            clear hK KR hF
            cases hem : edgeM x k with
            | mk ab s =>
            obtain ⟨ra, rb⟩ := ab
            rw [hem] at HEk
            simp only [edgeRes3] at HEk
            have HEM := Lib.hid hem
            clear hem
            cases s with
            | false =>
              have HX : Hid (admM x = (noCrt, (k : Int), 190)) := HA2.out k (firstNot_some hlt (by show (edgeM x k).2 = false; rw [HEM.out]) HFL.out)
              go_wp2_with (refine wpList_load_agg rfl 26 (.tmp 1) rfl rfl (cs := il) (by rw [HIC.out]; exact agg_image) HCr.out ?_)
              refine HEk.out.mono ?_
              rintro e w3 ⟨rfl, k3⟩
              go_wp2
              go_ret2
              exact ⟨by rw [HX.out]; rfl, HK0.out.then (HKR2.out.then k3)⟩
            | true =>
              go_wp2_with (refine wpList_load_agg rfl 26 (.tmp 1) rfl rfl (cs := il) (by rw [HIC.out]; exact agg_image) HCr.out ?_)
              refine HEk.out.mono ?_
              rintro e w3 ⟨rfl, k3⟩
              have HK3 := Lib.hid (HKr.out.then k3)
              clear k3
              go_wp2
              go_roundw
              case rel => exact ⟨k + 1, by omega, by go_num, HK3.out, fun i hi => by
                by_cases hik : i < k
                · exact HFL.out i hik
                · obtain rfl : i = k := by omega
                  rw [HEM.out]⟩
              case measure => simp [intOf] <;> omega
          · obtain rfl : k = x.edges.length := by omega
            have p2 : decide ((x.edges.length : Int) < (x.edges.length : Int)) = false := by simp
            have HX : Hid (admM x = (fullCrt x, 0, 0)) := HA3.out (firstNot_none hF)
            have HKe := Lib.hid KR
            clear hF hK KR
            go_wp2
            go_ret2
            exact ⟨by rw [HX.out]; rfl, HK0.out.then HKe.out⟩
  · have hcn : (c2 != 0) = true := by simpa using hc
    have HA : Hid (admM x = (noCrt, c1, c2)) := HA0.out hc
    clear HA0 HA1 HA2 HA3 hso hc HMo HEd HFi
    go_enter Tryz.func20, Tryz.ntmps20
    go_wp2_with (first
      | rw [HW.out]
      | (refine wpList_load_agg rfl 26 (.tmp 1) rfl rfl (cs := il) (by rw [HIC.out]; exact agg_image) (HCI _ (Keep.refl _ _)).out ?_)
      | (refine HC.out.mono ?_; rintro e w1 ⟨rfl, k1⟩; rw [chkRes]))
    go_ret2
    exact ⟨by rw [HA.out]; rfl, HK0.out.then k1⟩
end Go.Proofs.YtnnnjcgddmhdmaaGreatDoor
