/- RouteFinds: the law's walk. Condition: the table of math/bits lies where the program's text lays it. -/
import Derived.Test.YteocldlglklnjaaDoorRouteU
import Derived.Test.YteocldlglklnjaaDoorRouteN
import Derived.Test.YteocldlglklnjaaDoorRouteI
namespace Go.Proofs.YteocldlglklnjaaDoor
open Go.RowKit
attribute [local go_sem] Oper.semAt_some

set_option maxRecDepth 100000 in
set_option maxHeartbeats 8000000 in
theorem routeFinds_not (v : ImgV) (x : Img) (fr to_ : Int) (w : World) (hTb : Tab w) (h : ImgAt w v x) (hn : greatImg x = true ∨ ¬ (admM x).2.2 = 0) :
    Calls Tryd.prog 4 #[.agg (imgCells v x).toArray, .int .i64 fr, .int .i64 to_] w fun e w' => e = .returned (.bool true) ∧ Keep [] w w' := by
  obtain ⟨W0, hW0⟩ : ∃ W0, w.alloc (.cells (imgCells v x).toArray 26) = W0 := ⟨_, rfl⟩
  have b0 : Blk W0 w.heap.size 26 (imgCells v x).toArray := by rw [← hW0]; exact img_box w v x
  have K0 : Keep [] w W0 := by rw [← hW0]; exact (Keep.refl [] w).alloc _
  have HIC : Hid ((imgCells v x).length = 4) := show _ = _ from rfl
  have HIr : Hid (CellsAt W0 w.heap.size 0 (imgCells v x)) := b0.cellsAt
  have HKn := Lib.hid (known_no v x W0 (hTb.keep0 K0) (h.keep0 K0) hn)
  have HAl := fun w' (k : Keep [] W0 w') => Lib.hid (alive43 w' (hTb.keep0 (K0.then k)))
  have HK0 := Lib.hid K0
  have HW := Lib.hid hW0
  clear hTb h K0 hW0 b0 hn
  generalize imgCells v x = il at *
  go_enter Tryd.func4, Tryd.ntmps4
  go_wp2_with (first | rw [HW.out] | (refine wpList_load_agg rfl 26 (.tmp 3) rfl rfl (cs := il) (by rw [HIC.out]; exact agg_image) HIr.out ?_))
  refine HKn.out.mono ?_
  rintro e w1 ⟨cl, rfl, hcl, hone, k1⟩
  have HCC := Lib.hid hcl
  have HO := Lib.hid hone
  have HK1 := Lib.hid k1
  clear hcl hone k1 HKn HIr
  go_wp2_with (refine stop_store 30 (.tmp 7) (.tmp 18) rfl ?_)
  constructor
  refine wpList_store_all rfl 30 (.tmp 7) (.tmp 18) rfl rfl rfl (vs := cl) (by rw [HCC.out]; exact agg_cert.2) (Blk.new _ _ _) HO.out ?_ ?_
  · rw [HCC.out]; rfl
  intro w2 d2 k2
  have k12 : Keep [] w1 w2 := ((Keep.refl [] w1).alloc _).trans k2 (fun y hy hlt => by simp at hy; omega)
  have HK2 := Lib.hid (HK1.out.then k12)
  clear d2 k2 k12
  go_wp2_with fail
  refine (HAl w2 HK2.out).out.mono ?_
  rintro e w3 ⟨rfl, k3⟩
  go_wp2
  go_ret
  exact ⟨rfl, (HK0.out.then HK2.out).then k3⟩

set_option maxRecDepth 100000 in
set_option maxHeartbeats 8000000 in
theorem routeFinds_no (v : ImgV) (x : Img) (fr to_ : Int) (w : World) (hTb : Tab w) (h : ImgAt w v x) (hg : greatImg x = false) (ha : (admM x).2.2 = 0) (t : Nat → Int) (p : Nat → Prop)
    (hF : ∀ vc W, ImgAt W v x → CrtE W vc (fullCrt x) → Calls Tryd.prog 21 #[.agg (imgCells v x).toArray, .agg (crtCells vc (fullCrt x)).toArray, .int .i64 fr, .int .i64 to_] W fun e w' => e = .returned (noWay false) ∧ Keep [] W w')
    (hL : ∀ vc W, ImgAt W v x → CrtE W vc (fullCrt x) → Calls Tryd.prog 22 #[.agg (imgCells v x).toArray, .agg (crtCells vc (fullCrt x)).toArray, .int .i64 fr] W (RetRow W t x.modes.length))
    (hR : ∀ W, ImgAt W v x → Calls Tryd.prog 23 #[.agg (imgCells v x).toArray, .int .i64 fr] W (RetSet W p))
    (hp : ∀ a : Nat, a < 32 → to_ = a → ¬ p a) :
    Calls Tryd.prog 4 #[.agg (imgCells v x).toArray, .int .i64 fr, .int .i64 to_] w fun e w' => e = .returned (.bool true) ∧ Keep [] w w' := by
  obtain ⟨W0, hW0⟩ : ∃ W0, w.alloc (.cells (imgCells v x).toArray 26) = W0 := ⟨_, rfl⟩
  have b0 : Blk W0 w.heap.size 26 (imgCells v x).toArray := by rw [← hW0]; exact img_box w v x
  have K0 : Keep [] w W0 := by rw [← hW0]; exact (Keep.refl [] w).alloc _
  have HIC : Hid ((imgCells v x).length = 4) := show _ = _ from rfl
  have HI0 := Lib.hid (h.keep0 K0)
  have HIr : ∀ W, Keep [] W0 W → Hid (CellsAt W w.heap.size 0 (imgCells v x)) := fun W k => (b0.keep0 k).cellsAt
  have HKn := Lib.hid (known_yes v x W0 (hTb.keep0 K0) (h.keep0 K0) hg ha)
  have HAl := fun w' (k : Keep [] W0 w') => Lib.hid (alive43 w' (hTb.keep0 (K0.then k)))
  have HF := fun vc W (k : Keep [] W0 W) (hc : CrtE W vc (fullCrt x)) => Lib.hid (hF vc W (HI0.out.keep0 k) hc)
  have HL := fun vc W (k : Keep [] W0 W) (hc : CrtE W vc (fullCrt x)) => Lib.hid (hL vc W (HI0.out.keep0 k) hc)
  have HR := fun W (k : Keep [] W0 W) => Lib.hid (hR W (HI0.out.keep0 k))
  have HP := Lib.hid hp
  have HK0 := Lib.hid K0
  have HW := Lib.hid hW0
  clear hTb h K0 hW0 b0 hF hL hR hp hg ha HI0
  generalize imgCells v x = il at *
  go_enter Tryd.func4, Tryd.ntmps4
  have hr0 := HIr W0 (Keep.refl _ _)
  go_wp2_with (first | rw [HW.out] | (refine wpList_load_agg rfl 26 (.tmp 3) rfl rfl (cs := il) (by rw [HIC.out]; exact agg_image) hr0.out ?_))
  refine HKn.out.mono ?_
  rintro e w1 ⟨vc, rfl, hc1, k1⟩
  have HCC : Hid ((crtCells vc (fullCrt x)).length = 2) := show _ = _ from rfl
  have HO : Hid (∀ u ∈ crtCells vc (fullCrt x), u.oneCell' = true) := by
    intro u hu
    simp [crtCells] at hu
    rcases hu with rfl | rfl <;> rfl
  have HE1 := Lib.hid hc1
  have HK1 := Lib.hid k1
  replace HF := HF vc
  replace HL := HL vc
  generalize crtCells vc (fullCrt x) = cl at *
  clear hc1 k1 HKn hr0
  go_wp2_with (refine stop_store 30 (.tmp 7) (.tmp 18) rfl ?_)
  constructor
  refine wpList_store_all rfl 30 (.tmp 7) (.tmp 18) rfl rfl rfl (vs := cl) (by rw [HCC.out]; exact agg_cert.2) (Blk.new _ _ _) HO.out ?_ ?_
  · rw [HCC.out]; rfl
  intro w2 d2 k2
  have k12 : Keep [] w1 w2 := ((Keep.refl [] w1).alloc _).trans k2 (fun y hy hlt => by simp at hy; omega)
  have HK2 := Lib.hid (HK1.out.then k12)
  have HE2 := Lib.hid (HE1.out.keep0 k12)
  have HFw := HF w2 HK2.out HE2.out
  have HI2 := HIr w2 HK2.out
  have HC2 := Lib.hid d2.cellsAt
  have HD2 := Lib.hid d2
  clear d2 k2 k12
  go_wp2_with (first
    | (refine wpList_load_agg rfl 26 (.tmp 3) rfl rfl (cs := il) (by rw [HIC.out]; exact agg_image) HI2.out ?_)
    | (refine wpList_load_agg rfl 30 (.tmp 7) rfl rfl (cs := cl) (by rw [HCC.out]; exact agg_cert) HC2.out ?_))
  refine HFw.out.mono ?_
  rintro e w3 ⟨rfl, k3⟩
  have HK3 := Lib.hid k3
  clear HFw HI2 HC2 HF k3
  unfold noWay
  go_wp2_with (refine stop_store 70 (.tmp 9) (.tmp 29) rfl ?_)
  constructor
  refine wpList_store_all rfl 70 (.tmp 9) (.tmp 29) rfl rfl rfl (vs := [.slice none 0 0, .int .i64 0]) agg_way.2 (Blk.new _ _ _) (by simp [Value.oneCell']) rfl ?_
  intro w4 d4 k4
  have k34 : Keep [] w3 w4 := ((Keep.refl [] w3).alloc _).trans k4 (fun y hy hlt => by simp at hy; omega)
  have HK4 := Lib.hid (HK2.out.then (HK3.out.then k34))
  have HLw := HL w4 HK4.out (HE2.out.keep0 (HK3.out.then k34))
  have HI4 := HIr w4 HK4.out
  have HC4 := Lib.hid (HD2.out.keep0 (HK3.out.then k34)).cellsAt
  have HW4 := Lib.hid d4
  clear d4 k4 k34 HL
  go_wp2_with (first
    | (refine wpList_load_agg rfl 26 (.tmp 3) rfl rfl (cs := il) (by rw [HIC.out]; exact agg_image) HI4.out ?_)
    | (refine wpList_load_agg rfl 30 (.tmp 7) rfl rfl (cs := cl) (by rw [HCC.out]; exact agg_cert) HC4.out ?_))
  refine HLw.out.mono ?_
  rintro e w5 ⟨gl, rfl, hgl, k5⟩
  have HK5 := Lib.hid (HK4.out.then k5)
  have HW5 := Lib.hid (HW4.out.keep0 k5)
  have HI5 := HIr w5 HK5.out
  have HRw := HR w5 HK5.out
  clear hgl k5 HLw HI4 HC4 HR
  go_wp2_with (refine wpList_load_agg rfl 26 (.tmp 3) rfl rfl (cs := il) (by rw [HIC.out]; exact agg_image) HI5.out ?_)
  refine HRw.out.mono ?_
  rintro e w6 ⟨r, rfl, hr1, hr2, k6⟩
  have hno : has10 r to_ = false := by
    unfold has10
    by_cases h0 : 0 ≤ to_ ∧ to_ < 32
    · obtain ⟨n, rfl⟩ := Int.eq_ofNat_of_zero_le h0.1
      have := HP.out n (by omega) rfl
      rw [← hr2 n (by omega)] at this
      simp only [Int.toNat_natCast]
      rw [Bool.eq_false_iff.2 this]
      simp
    · have : decide (0 ≤ to_) = false ∨ decide (to_ < 32) = false := by
        by_cases h1 : 0 ≤ to_
        · right; simp; omega
        · left; simp; omega
      rcases this with h1 | h1 <;> rw [h1] <;> simp
  have HH := Lib.hid (has10_any r to_ w6 hr1)
  rw [hno] at HH
  have HK6 := Lib.hid (HK5.out.then k6)
  have e0 := (HW5.out.keep0 k6).at_ (j := 0) (u := .slice none 0 0) rfl
  have e1 := (HW5.out.keep0 k6).at_ (j := 1) (u := .int .i64 0) rfl
  clear hno hr1 hr2 k6 HRw HI5 HP
  go_wp2_with fail
  refine HH.out.mono ?_
  rintro e w7 ⟨rfl, rfl⟩
  go_wp2_with fail
  refine (HAl _ HK6.out).out.mono ?_
  rintro e w8 ⟨rfl, k8⟩
  go_wp2
  go_ret
  exact ⟨rfl, (HK0.out.then HK6.out).then k8⟩

def FoundW (w : World) (es : List Eg) (s M t : Nat) (e : Ending) (w' : World) : Prop :=
  ∃ A cp L, e = .returned (.tuple #[.agg #[.slice A L.length cp, .int .i64 (HR es s M t)], .bool true]) ∧ Reads w' 1 A L.length (natsV L) ∧ L.length ≤ 101 ∧ leads es s 0 L = some (t, HR es s M t) ∧ (L.length = 0 ↔ s = t) ∧ Keep [] w w'
theorem found_any (v : ImgV) (x : Img) (vc : CrtV) (c : Crt) (s t : Nat) (w : World) (h : ImgAt w v x) (hc : CrtE w vc c) (hr : (chkImg x).2 = 0) (hl : c.edges.length = x.edges.length) (hB : edgeB c) (hs : s < x.modes.length) (ht : t < x.modes.length) (hg : Gets (egs x c) s t) :
    Calls Tryd.prog 21 #[.agg (imgCells v x).toArray, .agg (crtCells vc c).toArray, .int .i64 (s : Int), .int .i64 (t : Int)] w (FoundW w (egs x c) s x.modes.length t) := by
  have hM8 := (right_of hr).nm.2
  by_cases e : t = s
  · subst e
    refine (find_eq v x vc c t w hs).mono ?_
    rintro e w' ⟨rfl, k⟩
    have h0 := hr_start (egs_ok hr hB) hs (by omega)
    refine ⟨none, 0, [], ?_, Reads.none_, by simp, ?_, by simp, k⟩
    · rw [h0]; rfl
    · rw [h0]; rw [leads]
  · refine (find_yes v x vc c s t w h hc hr hl hB hs ht e).mono ?_
    rintro e' w' (⟨A, cp, L, rfl, ho, ⟨hn, h1, h2, _, _⟩, k⟩ | ⟨rfl, ⟨h1, _⟩, _⟩)
    · refine ⟨A, cp, L, rfl, Reads.of_own ho, h1, h2, ⟨fun h0 => absurd (List.length_eq_zero_iff.1 h0) hn, fun h0 => absurd h0.symm e⟩, k⟩
    · exact absurd hg h1

set_option maxRecDepth 100000 in
set_option maxHeartbeats 8000000 in
theorem routeFinds_yes (v : ImgV) (x : Img) (s t : Nat) (w : World) (hTb : Tab w) (h : ImgAt w v x) (hg : greatImg x = false) (ha : (admM x).2.2 = 0)
    (hs : s < x.modes.length) (ht : t < x.modes.length) (hgt : Gets (egs x (fullCrt x)) s t) :
    Calls Tryd.prog 4 #[.agg (imgCells v x).toArray, .int .i64 (s : Int), .int .i64 (t : Int)] w fun e w' => e = .returned (.bool true) ∧ Keep [] w w' := by
  have hr := (adm_ok ha).1
  have hM8 := (right_of hr).nm.2
  have hB := edgeB_full hr h.ok
  have hl := fullCrt_len x
  have hok := egs_ok hr hB
  obtain ⟨W0, hW0⟩ : ∃ W0, w.alloc (.cells (imgCells v x).toArray 26) = W0 := ⟨_, rfl⟩
  have b0 : Blk W0 w.heap.size 26 (imgCells v x).toArray := by rw [← hW0]; exact img_box w v x
  have K0 : Keep [] w W0 := by rw [← hW0]; exact (Keep.refl [] w).alloc _
  have HIC : Hid ((imgCells v x).length = 4) := show _ = _ from rfl
  have HI0 := Lib.hid (h.keep0 K0)
  have HIr : ∀ W, Keep [] W0 W → Hid (CellsAt W w.heap.size 0 (imgCells v x)) := fun W k => (b0.keep0 k).cellsAt
  have HKn := Lib.hid (known_yes v x W0 (hTb.keep0 K0) (h.keep0 K0) hg ha)
  have HAl := fun w' (k : Keep [] W0 w') => Lib.hid (alive43 w' (hTb.keep0 (K0.then k)))
  have HF := fun vc W (k : Keep [] W0 W) (hc : CrtE W vc (fullCrt x)) => Lib.hid (found_any v x vc (fullCrt x) s t W (HI0.out.keep0 k) hc hr hl hB hs ht hgt)
  have HL := fun vc W (k : Keep [] W0 W) (hc : CrtE W vc (fullCrt x)) => Lib.hid (least_yes v x vc (fullCrt x) s W (HI0.out.keep0 k) hc hr hl hB hs)
  have HR' := fun W (k : Keep [] W0 W) => Lib.hid (rreach_yes v x (egs x (fullCrt x)) s W (HI0.out.keep0 k) hr (egsOf hl) hs)
  have HFa := fun vc W (k : Keep [] W0 W) (hc : CrtE W vc (fullCrt x)) => Lib.hid (farthest_any v x vc (fullCrt x) s W (hTb.keep0 (K0.then k)) (HI0.out.keep0 k) hc hr hl hB hs)
  have HRt := fun vc L A cp z W (k : Keep [] W0 W) (hc : CrtE W vc (fullCrt x)) hL hLl hld => Lib.hid (right43_any v x vc (fullCrt x) s t L A cp z W (HI0.out.keep0 k) hc hr hl hB hL hLl hs hld)
  have HMS := fun r hr => Lib.hid (most_same (r := r) hok hs hM8 hr)
  have HG := Lib.hid hgt
  have HK0 := Lib.hid K0
  have HW := Lib.hid hW0
  clear hTb h K0 hW0 b0 hg ha HI0 hgt hok hl hB hr
  generalize imgCells v x = il at *
  generalize egs x (fullCrt x) = es at *
  generalize fullCrt x = fc at *
  generalize x.modes.length = M at *
  generalize hHR : HR es s M = hh at *
  go_enter Tryd.func4, Tryd.ntmps4
  have hr0 := HIr W0 (Keep.refl _ _)
  go_wp2_with (first | rw [HW.out] | (refine wpList_load_agg rfl 26 (.tmp 3) rfl rfl (cs := il) (by rw [HIC.out]; exact agg_image) hr0.out ?_))
  refine HKn.out.mono ?_
  rintro e w1 ⟨vc, rfl, hc1, k1⟩
  have HCC : Hid ((crtCells vc fc).length = 2) := show _ = _ from rfl
  have HO : Hid (∀ u ∈ crtCells vc fc, u.oneCell' = true) := by
    intro u hu
    simp [crtCells] at hu
    rcases hu with rfl | rfl <;> rfl
  have HE1 := Lib.hid hc1
  have HK1 := Lib.hid k1
  replace HF := HF vc
  replace HL := HL vc
  replace HFa := HFa vc
  replace HRt := HRt vc
  generalize crtCells vc fc = cl at *
  clear hc1 k1 HKn hr0
  go_wp2_with (refine stop_store 30 (.tmp 7) (.tmp 18) rfl ?_)
  constructor
  refine wpList_store_all rfl 30 (.tmp 7) (.tmp 18) rfl rfl rfl (vs := cl) (by rw [HCC.out]; exact agg_cert.2) (Blk.new _ _ _) HO.out ?_ ?_
  · rw [HCC.out]; rfl
  intro w2 d2 k2
  have k12 : Keep [] w1 w2 := ((Keep.refl [] w1).alloc _).trans k2 (fun y hy hlt => by simp at hy; omega)
  have HK2 := Lib.hid (HK1.out.then k12)
  have HE2 := Lib.hid (HE1.out.keep0 k12)
  have HFw := HF w2 HK2.out HE2.out
  have HI2 := HIr w2 HK2.out
  have HC2 := Lib.hid d2.cellsAt
  have HD2 := Lib.hid d2
  clear d2 k2 k12
  go_wp2_with (first
    | (refine wpList_load_agg rfl 26 (.tmp 3) rfl rfl (cs := il) (by rw [HIC.out]; exact agg_image) HI2.out ?_)
    | (refine wpList_load_agg rfl 30 (.tmp 7) rfl rfl (cs := cl) (by rw [HCC.out]; exact agg_cert) HC2.out ?_))
  refine HFw.out.mono ?_
  unfold FoundW
  rw [hHR]
  rintro e w3 ⟨A, cp, L, rfl, hL, hLl, hld, hst, k3⟩
  have HK3 := Lib.hid k3
  have HRL := Lib.hid hL
  have HLD := Lib.hid hld
  have HLL := Lib.hid hLl
  have HST := Lib.hid hst
  clear HFw HI2 HC2 HF k3 hL hLl hld hst
  go_wp2_with (refine stop_store 70 (.tmp 9) (.tmp 29) rfl ?_)
  constructor
  refine wpList_store_all rfl 70 (.tmp 9) (.tmp 29) rfl rfl rfl (vs := [.slice A L.length cp, .int .i64 (hh t)]) agg_way.2 (Blk.new _ _ _) (by simp [Value.oneCell']) rfl ?_
  intro w4 d4 k4
  have k34 : Keep [] w3 w4 := ((Keep.refl [] w3).alloc _).trans k4 (fun y hy hlt => by simp at hy; omega)
  have HK4 := Lib.hid (HK2.out.then (HK3.out.then k34))
  have HE4 := Lib.hid (HE2.out.keep0 (HK3.out.then k34))
  have HLw := HL w4 HK4.out HE4.out
  have HI4 := HIr w4 HK4.out
  have HD4 := Lib.hid (HD2.out.keep0 (HK3.out.then k34))
  have HC4 := Lib.hid HD4.out.cellsAt
  have HW4 := Lib.hid d4
  have HRL4 := Lib.hid (HRL.out.keep0 k34)
  clear d4 k4 k34 HL
  go_wp2_with (first
    | (refine wpList_load_agg rfl 26 (.tmp 3) rfl rfl (cs := il) (by rw [HIC.out]; exact agg_image) HI4.out ?_)
    | (refine wpList_load_agg rfl 30 (.tmp 7) rfl rfl (cs := cl) (by rw [HCC.out]; exact agg_cert) HC4.out ?_))
  refine HLw.out.mono ?_
  unfold RetRow
  rintro e w5 ⟨gl, rfl, hgl, k5⟩
  have HK5 := Lib.hid (HK4.out.then k5)
  have HK45 := Lib.hid k5
  have HI5 := HIr w5 HK5.out
  have HRw := HR' w5 HK5.out
  have HGL := Lib.hid hgl
  clear hgl k5 HLw HI4 HC4 HR'
  go_wp2_with (refine wpList_load_agg rfl 26 (.tmp 3) rfl rfl (cs := il) (by rw [HIC.out]; exact agg_image) HI5.out ?_)
  refine HRw.out.mono ?_
  rintro e w6 ⟨r, rfl, hr1, hr2, k6⟩
  have hyes : has10 r (t : Int) = true := by
    unfold has10
    have := (hr2 t (by omega)).2 HG.out
    simp only [Int.toNat_natCast]
    rw [this]
    simp
    omega
  have HH := Lib.hid (has10_any r (t : Int) w6 hr1)
  rw [hyes] at HH
  have HK6 := Lib.hid (HK5.out.then k6)
  have HK46 := Lib.hid (HK45.out.then k6)
  have HGL6 := Lib.hid (HGL.out.keep0 k6)
  clear hyes hr1 hr2 k6 HRw HI5 HG
  have q0 : decide ((M : Int) ≤ (t : Int)) = false := decide_eq_false (by omega)
  go_wp2_with fail
  refine HH.out.mono ?_
  rintro e w7 ⟨rfl, rfl⟩
  go_wp2_with fail
  go_loopw [13, 14] (fun mv iv wr => ∃ k : Nat, k ≤ M ∧ iv = .int .i64 (k : Int) ∧ mv = .int .i64 (mostK hh k) ∧ w6 = wr) (fun _ iv _ => M - (intOf iv).toNat)
  case atStart => exact ⟨0, Nat.zero_le _, rfl, rfl, rfl⟩
  case round =>
    obtain ⟨k, hk, rfl, rfl, rfl⟩ := hrel
    by_cases hlt : k < M
    · have c0 := HGL6.out.at_ (tickL_at hh hlt)
      have p0 : (0 : Int) ≤ (k : Int) := by omega
      have p1 : (k : Int) < (M : Int) := by omega
      have p2 : decide ((k : Int) < (M : Int)) = true := decide_eq_true p1
      have HN : Hid (mostK hh (k + 1) = if hh k < farR ∧ mostK hh k < hh k then hh k else mostK hh k) := show _ = _ from rfl
      unfold farR at HN
      by_cases h1 : hh k < 1099511627776
      · have q1 : decide (hh k < 1099511627776) = true := decide_eq_true h1
        by_cases h2 : mostK hh k < hh k
        · have q2 : decide (mostK hh k < hh k) = true := decide_eq_true h2
          have HN2 : Hid (mostK hh (k + 1) = hh k) := HN.out.trans (if_pos ⟨h1, h2⟩)
          clear h1 h2 HN
          go_wp2
          go_roundw
          case rel => exact ⟨k + 1, by omega, by go_num, by rw [HN2.out], trivial⟩
          case measure => simp [intOf]; omega
        · have q2 : decide (mostK hh k < hh k) = false := decide_eq_false h2
          have HN2 : Hid (mostK hh (k + 1) = mostK hh k) := HN.out.trans (if_neg (fun h => h2 h.2))
          clear h1 h2 HN
          go_wp2
          go_roundw
          case rel => exact ⟨k + 1, by omega, by go_num, by rw [HN2.out], trivial⟩
          case measure => simp [intOf]; omega
      · have q1 : decide (hh k < 1099511627776) = false := decide_eq_false h1
        have HN2 : Hid (mostK hh (k + 1) = mostK hh k) := HN.out.trans (if_neg (fun h => h1 h.1))
        clear h1 HN
        go_wp2
        go_roundw
        case rel => exact ⟨k + 1, by omega, by go_num, by rw [HN2.out], trivial⟩
        case measure => simp [intOf]; omega
    · obtain rfl : k = M := by omega
      have p2 : decide ((k : Int) < (k : Int)) = false := by simp
      have c0 := fun w' (kk : Keep [] w6 w') => (HGL6.out.keep0 kk).at_ (tickL_at hh ht)
      have hF : ∀ w', Keep [] w6 w' → w'.cell? ⟨w3.heap.size, 0, none⟩ = some (.slice A L.length cp) ∧ w'.cell? ⟨w3.heap.size, 1, none⟩ = some (.int .i64 (hh t)) ∧ w'.cell? ⟨gl, t, none⟩ = some (.int .i64 (hh t)) := fun w' kk => ⟨(HW4.out.keep0 (HK46.out.then kk)).at_ (j := 0) rfl, (HW4.out.keep0 (HK46.out.then kk)).at_ (j := 1) rfl, c0 w' kk⟩
      have hIc : ∀ w', Keep [] w6 w' → CellsAt w' w.heap.size 0 il := fun w' kk => (HIr w' (HK6.out.then kk)).out
      have hCc : ∀ w', Keep [] w6 w' → CellsAt w' w1.heap.size 0 cl := fun w' kk => (HD4.out.keep0 (HK46.out.then kk)).cellsAt
      have hWc : ∀ w', Keep [] w6 w' → CellsAt w' w3.heap.size 0 [.slice A L.length cp, .int .i64 (hh t)] := fun w' kk => (HW4.out.keep0 (HK46.out.then kk)).cellsAt
      have hRt := fun w' (kk : Keep [] w6 w') => HRt L A cp (hh t) w' (HK6.out.then kk) (HE4.out.keep0 (HK46.out.then kk)) (HRL4.out.keep0 (HK46.out.then kk)) HLL.out HLD.out
      have hFa := fun w' (kk : Keep [] w6 w') => HFa w' (HK6.out.then kk) (HE4.out.keep0 (HK46.out.then kk))
      have hAl := fun w' (kk : Keep [] w6 w') => HAl w' (HK6.out.then kk)
      have HT := Lib.hid ht
      clear c0 HRt HFa HAl HIr hM8 HGL HGL6 HH
      obtain ⟨b, q3, q4⟩ : ∃ b : Bool, ((s : Int) == (t : Int)) = b ∧ ((L.length : Int) == 0) = b := by
        by_cases e : s = t
        · exact ⟨true, beq_iff_eq.2 (by omega), beq_iff_eq.2 (by have := HST.out.2 e; omega)⟩
        · exact ⟨false, beq_eq_false_iff_ne.2 (by omega), beq_eq_false_iff_ne.2 (fun h => e (HST.out.1 (by omega)))⟩
      have i0 : (0 : Int) ≤ (t : Int) := by omega
      have i1 : (t : Int) < (k : Int) := by omega
      clear HST
      generalize L.length = n at *
      go_wp2
      refine ap_begin 39 (Keep [] w6) rfl (Keep.refl _ _).drew (fun hS hPan => ?_) (fun _ _ d _ _ h => by cases d <;> exact h)
      (refine ap_val (v := ?_) 0 rfl (by kernel_rfl) (by kernel_rfl) (by kernel_rfl) (by kernel_rfl) (by rfl) hPan ?_ hS ?_; rotate_left; (intro w' hSw; go_simp; try with_reducible rfl); simp only [Act.put, List.setIfInBounds_toArray, List.set_cons_zero, List.set_cons_succ])
      (refine ap_val (v := ?_) 1 rfl (by kernel_rfl) (by kernel_rfl) (by kernel_rfl) (by kernel_rfl) (by rfl) hPan ?_ hS ?_; rotate_left; (intro w' hSw; go_simp; try with_reducible rfl); simp only [Act.put, List.setIfInBounds_toArray, List.set_cons_zero, List.set_cons_succ])
      (refine ap_val (v := ?_) 2 rfl (by kernel_rfl) (by kernel_rfl) (by kernel_rfl) (by kernel_rfl) (by rfl) hPan ?_ hS ?_; rotate_left; (intro w' hSw; go_simp; try with_reducible rfl); simp only [Act.put, List.setIfInBounds_toArray, List.set_cons_zero, List.set_cons_succ])
      (refine ap_val (v := ?_) 3 rfl (by kernel_rfl) (by kernel_rfl) (by kernel_rfl) (by kernel_rfl) (by rfl) hPan ?_ hS ?_; rotate_left; (intro w' hSw; obtain ⟨f1,f2,f3⟩ := hF w' hSw; go_simp; try with_reducible rfl); simp only [Act.put, List.setIfInBounds_toArray, List.set_cons_zero, List.set_cons_succ])
      (refine ap_val (v := ?_) 4 rfl (by kernel_rfl) (by kernel_rfl) (by kernel_rfl) (by kernel_rfl) (by rfl) hPan ?_ hS ?_; rotate_left; (intro w' hSw; go_simp; try with_reducible rfl); simp only [Act.put, List.setIfInBounds_toArray, List.set_cons_zero, List.set_cons_succ])
      (refine ap_val (v := ?_) 5 rfl (by kernel_rfl) (by kernel_rfl) (by kernel_rfl) (by kernel_rfl) (by rfl) hPan ?_ hS ?_; rotate_left; (intro w' hSw; go_simp; try with_reducible rfl); simp only [Act.put, List.setIfInBounds_toArray, List.set_cons_zero, List.set_cons_succ])
      (refine ap_val (v := ?_) 6 rfl (by kernel_rfl) (by kernel_rfl) (by kernel_rfl) (by kernel_rfl) (by rfl) hPan ?_ hS ?_; rotate_left; (intro w' hSw; go_simp; try with_reducible rfl); simp only [Act.put, List.setIfInBounds_toArray, List.set_cons_zero, List.set_cons_succ])
      (refine ap_val (v := ?_) 7 rfl (by kernel_rfl) (by kernel_rfl) (by kernel_rfl) (by kernel_rfl) (by rfl) hPan ?_ hS ?_; rotate_left; (intro w' hSw; obtain ⟨f1,f2,f3⟩ := hF w' hSw; go_simp; try with_reducible rfl); simp only [Act.put, List.setIfInBounds_toArray, List.set_cons_zero, List.set_cons_succ])
      (refine ap_val (v := ?_) 8 rfl (by kernel_rfl) (by kernel_rfl) (by kernel_rfl) (by kernel_rfl) (by rfl) hPan ?_ hS ?_; rotate_left; (intro w' hSw; go_simp; try with_reducible rfl); simp only [Act.put, List.setIfInBounds_toArray, List.set_cons_zero, List.set_cons_succ])
      (refine ap_val (v := ?_) 9 rfl (by kernel_rfl) (by kernel_rfl) (by kernel_rfl) (by kernel_rfl) (by rfl) hPan ?_ hS ?_; rotate_left; (intro w' hSw; go_simp; try with_reducible rfl); simp only [Act.put, List.setIfInBounds_toArray, List.set_cons_zero, List.set_cons_succ])
      (refine ap_val (v := ?_) 10 rfl (by kernel_rfl) (by kernel_rfl) (by kernel_rfl) (by kernel_rfl) (by rfl) hPan ?_ hS ?_; rotate_left; (intro w' hSw; go_simp; try with_reducible rfl); simp only [Act.put, List.setIfInBounds_toArray, List.set_cons_zero, List.set_cons_succ])
      refine ap_agg 11 26 (.tmp 3) il rfl (by kernel_rfl) (by kernel_rfl) (by kernel_rfl) (by kernel_rfl) (by rfl) hPan rfl rfl (by rw [HIC.out]; exact agg_image) hIc hS ?_
      (simp only [Act.put, List.setIfInBounds_toArray, List.set_cons_zero, List.set_cons_succ])
      refine ap_agg 12 30 (.tmp 7) cl rfl (by kernel_rfl) (by kernel_rfl) (by kernel_rfl) (by kernel_rfl) (by rfl) hPan rfl rfl (by rw [HCC.out]; exact agg_cert) hCc hS ?_
      (simp only [Act.put, List.setIfInBounds_toArray, List.set_cons_zero, List.set_cons_succ])
      (refine ap_val (v := ?_) 13 rfl (by kernel_rfl) (by kernel_rfl) (by kernel_rfl) (by kernel_rfl) (by rfl) hPan ?_ hS ?_; rotate_left; (intro w' hSw; go_simp; try with_reducible rfl); simp only [Act.put, List.setIfInBounds_toArray, List.set_cons_zero, List.set_cons_succ])
      (refine ap_val (v := ?_) 14 rfl (by kernel_rfl) (by kernel_rfl) (by kernel_rfl) (by kernel_rfl) (by rfl) hPan ?_ hS ?_; rotate_left; (intro w' hSw; go_simp; try with_reducible rfl); simp only [Act.put, List.setIfInBounds_toArray, List.set_cons_zero, List.set_cons_succ])
      refine ap_agg 15 70 (.tmp 9) [.slice A n cp, .int .i64 (hh t)] rfl (by kernel_rfl) (by kernel_rfl) (by kernel_rfl) (by kernel_rfl) (by rfl) hPan rfl rfl agg_way hWc hS ?_
      (simp only [Act.put, List.setIfInBounds_toArray, List.set_cons_zero, List.set_cons_succ])
      refine ap_one 16 (by kernel_rfl) ?_
      refine op_call (f := 25) 16 rfl (by rfl) rfl (by simp only [List.map_toArray, List.map_cons, List.map_nil]; rfl) Tryd.func25 (by kernel_rfl) (by kernel_rfl) (hRt _ hS).out ?_
      rintro e w8 ⟨rfl, k8⟩
      replace hS := hS.then k8
      refine ⟨_, rfl, fun _ => hS, ?_⟩
      clear k8
      (simp only [Act.put, List.setIfInBounds_toArray, List.set_cons_zero, List.set_cons_succ])
      (refine ap_val (v := ?_) 17 rfl (by kernel_rfl) (by kernel_rfl) (by kernel_rfl) (by kernel_rfl) (by rfl) hPan ?_ hS ?_; rotate_left; (intro w' hSw; go_simp; try with_reducible rfl); simp only [Act.put, List.setIfInBounds_toArray, List.set_cons_zero, List.set_cons_succ])
      (refine ap_val (v := ?_) 18 rfl (by kernel_rfl) (by kernel_rfl) (by kernel_rfl) (by kernel_rfl) (by rfl) hPan ?_ hS ?_; rotate_left; (intro w' hSw; go_simp; try with_reducible rfl); simp only [Act.put, List.setIfInBounds_toArray, List.set_cons_zero, List.set_cons_succ])
      (refine ap_val (v := ?_) 19 rfl (by kernel_rfl) (by kernel_rfl) (by kernel_rfl) (by kernel_rfl) (by rfl) hPan ?_ hS ?_; rotate_left; (intro w' hSw; go_simp; try with_reducible rfl); simp only [Act.put, List.setIfInBounds_toArray, List.set_cons_zero, List.set_cons_succ])
      (refine ap_val (v := ?_) 20 rfl (by kernel_rfl) (by kernel_rfl) (by kernel_rfl) (by kernel_rfl) (by rfl) hPan ?_ hS ?_; rotate_left; (intro w' hSw; go_simp; try with_reducible rfl); simp only [Act.put, List.setIfInBounds_toArray, List.set_cons_zero, List.set_cons_succ])
      (refine ap_val (v := .bool b) 21 rfl (by kernel_rfl) (by kernel_rfl) (by kernel_rfl) (by kernel_rfl) (by rfl) hPan ?_ hS ?_; (intro w' hSw; go_simp); simp only [Act.put, List.setIfInBounds_toArray, List.set_cons_zero, List.set_cons_succ])
      (refine ap_val (v := ?_) 22 rfl (by kernel_rfl) (by kernel_rfl) (by kernel_rfl) (by kernel_rfl) (by rfl) hPan ?_ hS ?_; rotate_left; (intro w' hSw; go_simp; try with_reducible rfl); simp only [Act.put, List.setIfInBounds_toArray, List.set_cons_zero, List.set_cons_succ])
      (refine ap_val (v := ?_) 23 rfl (by kernel_rfl) (by kernel_rfl) (by kernel_rfl) (by kernel_rfl) (by rfl) hPan ?_ hS ?_; rotate_left; (intro w' hSw; obtain ⟨f1,f2,f3⟩ := hF w' hSw; go_simp; try with_reducible rfl); simp only [Act.put, List.setIfInBounds_toArray, List.set_cons_zero, List.set_cons_succ])
      (refine ap_val (v := ?_) 24 rfl (by kernel_rfl) (by kernel_rfl) (by kernel_rfl) (by kernel_rfl) (by rfl) hPan ?_ hS ?_; rotate_left; (intro w' hSw; go_simp; try with_reducible rfl); simp only [Act.put, List.setIfInBounds_toArray, List.set_cons_zero, List.set_cons_succ])
      (refine ap_val (v := .bool b) 25 rfl (by kernel_rfl) (by kernel_rfl) (by kernel_rfl) (by kernel_rfl) (by rfl) hPan ?_ hS ?_; (intro w' hSw; go_simp); simp only [Act.put, List.setIfInBounds_toArray, List.set_cons_zero, List.set_cons_succ])
      (refine ap_val (v := .bool true) 26 rfl (by kernel_rfl) (by kernel_rfl) (by kernel_rfl) (by kernel_rfl) (by rfl) hPan ?_ hS ?_; (intro w' hSw; go_simp); simp only [Act.put, List.setIfInBounds_toArray, List.set_cons_zero, List.set_cons_succ])
      (refine ap_val (v := ?_) 27 rfl (by kernel_rfl) (by kernel_rfl) (by kernel_rfl) (by kernel_rfl) (by rfl) hPan ?_ hS ?_; rotate_left; (intro w' hSw; go_simp; try with_reducible rfl); simp only [Act.put, List.setIfInBounds_toArray, List.set_cons_zero, List.set_cons_succ])
      (refine ap_val (v := ?_) 28 rfl (by kernel_rfl) (by kernel_rfl) (by kernel_rfl) (by kernel_rfl) (by rfl) hPan ?_ hS ?_; rotate_left; (intro w' hSw; go_simp; try with_reducible rfl); simp only [Act.put, List.setIfInBounds_toArray, List.set_cons_zero, List.set_cons_succ])
      refine ap_agg 29 26 (.tmp 3) il rfl (by kernel_rfl) (by kernel_rfl) (by kernel_rfl) (by kernel_rfl) (by rfl) hPan rfl rfl (by rw [HIC.out]; exact agg_image) hIc hS ?_
      (simp only [Act.put, List.setIfInBounds_toArray, List.set_cons_zero, List.set_cons_succ])
      refine ap_agg 30 30 (.tmp 7) cl rfl (by kernel_rfl) (by kernel_rfl) (by kernel_rfl) (by kernel_rfl) (by rfl) hPan rfl rfl (by rw [HCC.out]; exact agg_cert) hCc hS ?_
      (simp only [Act.put, List.setIfInBounds_toArray, List.set_cons_zero, List.set_cons_succ])
      (refine ap_val (v := ?_) 31 rfl (by kernel_rfl) (by kernel_rfl) (by kernel_rfl) (by kernel_rfl) (by rfl) hPan ?_ hS ?_; rotate_left; (intro w' hSw; go_simp; try with_reducible rfl); simp only [Act.put, List.setIfInBounds_toArray, List.set_cons_zero, List.set_cons_succ])
      (refine ap_val (v := ?_) 33 rfl (by kernel_rfl) (by kernel_rfl) (by kernel_rfl) (by kernel_rfl) (by rfl) hPan ?_ hS ?_; rotate_left; (intro w' hSw; go_simp; try with_reducible rfl); simp only [Act.put, List.setIfInBounds_toArray, List.set_cons_zero, List.set_cons_succ])
      refine ap_one 32 (by kernel_rfl) ?_
      refine op_call (f := 26) 32 rfl (by rfl) rfl (by simp only [List.map_toArray, List.map_cons, List.map_nil]; rfl) Tryd.func26 (by kernel_rfl) (by kernel_rfl) (hFa _ hS).out ?_
      rintro e w9 ⟨⟨r2, hr2, rfl⟩, k9⟩
      rw [(HMS r2 hr2).out]
      replace hS := hS.then k9
      refine ⟨_, rfl, fun _ => hS, ?_⟩
      clear k9 hr2
      (simp only [Act.put, List.setIfInBounds_toArray, List.set_cons_zero, List.set_cons_succ])
      (refine ap_val (v := ?_) 34 rfl (by kernel_rfl) (by kernel_rfl) (by kernel_rfl) (by kernel_rfl) (by rfl) hPan ?_ hS ?_; rotate_left; (intro w' hSw; go_simp; try with_reducible rfl); simp only [Act.put, List.setIfInBounds_toArray, List.set_cons_zero, List.set_cons_succ])
      (refine ap_val (v := ?_) 35 rfl (by kernel_rfl) (by kernel_rfl) (by kernel_rfl) (by kernel_rfl) (by rfl) hPan ?_ hS ?_; rotate_left; (intro w' hSw; go_simp; try with_reducible rfl); simp only [Act.put, List.setIfInBounds_toArray, List.set_cons_zero, List.set_cons_succ])
      (refine ap_val (v := ?_) 36 rfl (by kernel_rfl) (by kernel_rfl) (by kernel_rfl) (by kernel_rfl) (by rfl) hPan ?_ hS ?_; rotate_left; (intro w' hSw; go_simp; try with_reducible rfl); simp only [Act.put, List.setIfInBounds_toArray, List.set_cons_zero, List.set_cons_succ])
      refine ap_one 37 (by kernel_rfl) ?_
      refine op_call (f := 20) 37 rfl (by rfl) rfl (by simp only [List.map_toArray, List.map_nil]) Tryd.func20 (by kernel_rfl) (by kernel_rfl) (hAl _ hS).out ?_
      rintro e w10 ⟨rfl, k10⟩
      replace hS := hS.then k10
      refine ⟨_, rfl, fun _ => hS, ?_⟩
      clear k10
      (simp only [Act.put, List.setIfInBounds_toArray, List.set_cons_zero, List.set_cons_succ])
      (refine ap_val (v := ?_) 38 rfl (by kernel_rfl) (by kernel_rfl) (by kernel_rfl) (by kernel_rfl) (by rfl) hPan ?_ hS ?_; rotate_left; (intro w' hSw; go_simp; try with_reducible rfl); simp only [Act.put, List.setIfInBounds_toArray, List.set_cons_zero, List.set_cons_succ])
      refine ap_one 39 (by kernel_rfl) ?_
      refine op_run (v := .bool true) (w' := w10) 39 rfl (by rfl) (by first | rfl | go_simp) ?_
      refine ⟨fun h => (by cases h), ap_done (by kernel_rfl) ?_ _⟩
      (simp only [Act.put, List.setIfInBounds_toArray, List.set_cons_zero, List.set_cons_succ])
      have KE : Keep [] w w10 := (HK0.out.then HK6.out).then hS
      clear hS hPan hF
      go_wp2
      go_ret
      exact ⟨rfl, KE⟩

theorem routeFinds_any (v : ImgV) (x : Img) (fr to_ : Int) (w : World) (hTb : Tab w) (h : ImgAt w v x) :
    Calls Tryd.prog 4 #[.agg (imgCells v x).toArray, .int .i64 fr, .int .i64 to_] w fun e w' => e = .returned (.bool true) ∧ Keep [] w w' := by
  by_cases hn : greatImg x = true ∨ ¬ (admM x).2.2 = 0
  · exact routeFinds_not v x fr to_ w hTb h hn
  have hg : greatImg x = false := by
    cases e : greatImg x with
    | false => rfl
    | true => exact absurd (.inl e) hn
  have ha : (admM x).2.2 = 0 := Classical.byContradiction fun e => hn (.inr e)
  have hr := (adm_ok ha).1
  have hM8 := (right_of hr).nm.2
  have hB := edgeB_full hr h.ok
  have hl := fullCrt_len x
  by_cases hf : fr < 0 ∨ (x.modes.length : Int) ≤ fr
  · exact routeFinds_no v x fr to_ w hTb h hg ha (fun _ => farR) (fun _ => False) (fun vc W _ _ => find_no v x vc _ fr to_ W (by omega)) (fun vc W _ _ => least_no v x vc _ fr W hM8 hf) (fun W hW => rreach_no v x fr W hW hr hf) (fun _ _ _ h => h)
  obtain ⟨s, rfl⟩ := Int.eq_ofNat_of_zero_le (show 0 ≤ fr by omega)
  have hs : s < x.modes.length := by omega
  by_cases hy : ∃ t : Nat, to_ = t ∧ t < x.modes.length ∧ Gets (egs x (fullCrt x)) s t
  · obtain ⟨t, rfl, ht, hgt⟩ := hy
    exact routeFinds_yes v x s t w hTb h hg ha hs ht hgt
  refine routeFinds_no v x s to_ w hTb h hg ha (HR (egs x (fullCrt x)) s x.modes.length) (fun a => Gets (egs x (fullCrt x)) s a) ?_ (fun vc W hW hc => least_yes v x vc _ s W hW hc hr hl hB hs) (fun W hW => rreach_yes v x _ s W hW hr (egsOf hl) hs) ?_
  · intro vc W hW hc
    by_cases ho : to_ < 0 ∨ (x.modes.length : Int) ≤ to_
    · exact find_no v x vc _ s to_ W (by omega)
    obtain ⟨t, rfl⟩ := Int.eq_ofNat_of_zero_le (show 0 ≤ to_ by omega)
    have ht : t < x.modes.length := by omega
    have hne : t ≠ s := fun e => hy ⟨t, rfl, ht, by subst e; exact ⟨_, .nil⟩⟩
    refine (find_yes v x vc _ s t W hW hc hr hl hB hs ht hne).mono ?_
    rintro e w' (⟨A, cp, L, rfl, _, ⟨_, _, _, hgt, _⟩, k⟩ | ⟨rfl, _, k⟩)
    · exact absurd ⟨t, rfl, ht, hgt⟩ hy
    · exact ⟨rfl, k⟩
  · rintro a ha2 rfl hgt
    refine hy ⟨a, rfl, ?_, hgt⟩
    obtain ⟨p, hp⟩ := hgt
    exact (way_in hs (fun e he => (egs_ends hr (egsOf hl) e he).2) hp).1
end Go.Proofs.YteocldlglklnjaaDoor
