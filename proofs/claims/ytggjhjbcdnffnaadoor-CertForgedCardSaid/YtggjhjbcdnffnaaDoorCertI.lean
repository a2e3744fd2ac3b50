/- The chapter's image of three modes. No condition. Is it an image's certificate (cert.Cert's Holds); a task's response; layer 21: is an image one of few; the chapter's image is admitted. Condition: the table of math/bits lies where the program's text lays it. Layer 21: is an image one of few; the chapter's image is admitted, and one that takes longer isn't. Condition: the table of math/bits lies where the program's text lays it. -/
import Derived.Test.YtggjhjbcdnffnaaDoorCertF
namespace Go.Proofs.YtggjhjbcdnffnaaDoor
open Go.RowKit
attribute [local go_sem] Oper.semAt_some

def z8t (n : Int) : List Int := [n, 0, 0, 0, 0, 0, 0, 0]
/-- The image; its first task takes 'a' ticks. -/
def exT (a : Int) : Img := ⟨1, [⟨10, 10, a, z8t 1⟩, ⟨20, 18, 5, z8t 0⟩, ⟨40, 40, 6, z8t 2⟩], [⟨3, []⟩, ⟨6, []⟩, ⟨7, []⟩], [⟨0, 1, 1, z16, [0, 0, 0, 0]⟩, ⟨1, 2, 2, z16, [0, 0, 0, 0]⟩, ⟨2, 0, 3, z16, [0, 0, 0, 0]⟩, ⟨0, 2, 3, z16, [0, 0, 0, 0]⟩]⟩
theorem exT_chk : (chkImg (exT 2)).2 = 0 := by kernel_rfl
theorem exT_modes : firstNot (modeFit (exT 2)) 3 = none := by kernel_rfl
theorem exT_edges : firstNot (fun i => (edgeM (exT 2) i).2) 4 = none := by kernel_rfl
theorem exT_adm : admM (exT 2) = (fullCrt (exT 2), 0, 0) := admM_full exT_chk exT_modes exT_edges
theorem exT_bad : (admM (exT 9)).2 = (0, 180) := by
  rw [admM_mode (x := exT 9) (by kernel_rfl) (i := 0) (by kernel_rfl)]; rfl
theorem exT_rows : modeRows (exT 2) 0 = [⟨0, 0, 2⟩, ⟨1, 0, 7⟩] := by kernel_rfl
def exTV (B : Nat) : ImgV := ⟨some ⟨B + 4, 0, none⟩, 3, some ⟨B + 5, 0, none⟩, 3, some ⟨B + 7, 0, none⟩, 4, [(none, 0), (none, 0), (none, 0)]⟩
def mddT : List Value := [.int .u32 3, .slice none 0 0, .int .u32 6, .slice none 0 0, .int .u32 7, .slice none 0 0]
theorem exT_task {w : World} {B : Nat} {a : Int} (h1 : Blk w (B + 4) 81 ((exT a).tasks.flatMap tskCells).toArray) : Reads w 11 (some ⟨B + 4, 0, none⟩) 3 ((exT a).tasks.flatMap tskCells) :=
  ⟨by simp [exT, z8t, tskCells, tskInts, iv], fun _ => ⟨B + 4, 0, rfl, h1.lt, fun j u hu => by rw [Nat.zero_add]; exact Blk.at_ (l := (exT a).tasks.flatMap tskCells) h1 hu⟩⟩
theorem exT_mode {w : World} {B : Nat} (h2 : Blk w (B + 5) 113 mddT.toArray) : Reads w 2 (some ⟨B + 5, 0, none⟩) 3 mddT :=
  ⟨rfl, fun _ => ⟨B + 5, 0, rfl, h2.lt, fun j u hu => by rw [Nat.zero_add]; exact Blk.at_ (l := mddT) h2 hu⟩⟩
theorem exT_edge {w : World} {B : Nat} {a : Int} (h3 : Blk w (B + 7) 67 ((exT a).edges.flatMap edgCells).toArray) : Reads w 23 (some ⟨B + 7, 0, none⟩) 4 ((exT a).edges.flatMap edgCells) :=
  ⟨by simp [exT, z16, edgCells, edgInts, iv], fun _ => ⟨B + 7, 0, rfl, h3.lt, fun j u hu => by rw [Nat.zero_add]; exact Blk.at_ (l := (exT a).edges.flatMap edgCells) h3 hu⟩⟩
theorem exT_zip (a : Int) (B : Nat) : ((exT a).modes.zip (exTV B).qa).flatMap mddCells = mddT := rfl
theorem exT_at {w : World} {B : Nat} {a : Int} (h1 : Blk w (B + 4) 81 ((exT a).tasks.flatMap tskCells).toArray) (h2 : Blk w (B + 5) 113 mddT.toArray) (h3 : Blk w (B + 7) 67 ((exT a).edges.flatMap edgCells).toArray) : ImgAt w (exTV B) (exT a) := by
  have hm := exT_mode h2
  rw [← exT_zip a B] at hm
  refine ⟨⟨by simp [exT, z8t], by simp [exT, z16], by simp [exT], by simp [exT]⟩, rfl, exT_task h1, hm, exT_edge h3, ?_, by simp [exT, maxLen], by simp [exT, maxLen], by simp [exT, maxLen], by simp [exT, maxLen]⟩
  · intro i h h'
    have : i = 0 ∨ i = 1 ∨ i = 2 := by simp [exT] at h; omega
    rcases this with rfl | rfl | rfl
    · exact Reads.none_
    · exact Reads.none_
    · exact Reads.none_
theorem new4 (w : World) (a b c d : Obj) (t : Nat) (cs : Array Value) : Blk (((((w.alloc a).alloc b).alloc c).alloc d).alloc (.cells cs t)) (w.heap.size + 4) t cs := by
  have := Blk.new ((((w.alloc a).alloc b).alloc c).alloc d) t cs
  simpa using this
theorem new5 (w : World) (a b c d e : Obj) (t : Nat) (cs : Array Value) : Blk ((((((w.alloc a).alloc b).alloc c).alloc d).alloc e).alloc (.cells cs t)) (w.heap.size + 5) t cs := by
  have := Blk.new (((((w.alloc a).alloc b).alloc c).alloc d).alloc e) t cs
  simpa using this
theorem new7 (w : World) (a b c d e f g : Obj) (t : Nat) (cs : Array Value) : Blk ((((((((w.alloc a).alloc b).alloc c).alloc d).alloc e).alloc f).alloc g).alloc (.cells cs t)) (w.heap.size + 7) t cs := by
  have := Blk.new (((((((w.alloc a).alloc b).alloc c).alloc d).alloc e).alloc f).alloc g) t cs
  simpa using this
set_option maxRecDepth 100000 in
set_option maxHeartbeats 4000000 in
theorem three_no (w : World) : Calls Tryd.prog 66 #[.bool false] w fun e w' => ∃ v, e = .returned (.agg (imgCells v (exT 2)).toArray) ∧ ImgAt w' v (exT 2) ∧ Keep [] w w' := by
  go_enter Tryd.func66, Tryd.ntmps66
  go_wp2_with fail
  refine bodyPost_ret (results_blk rfl _ rfl (vs := imgCells (exTV w.heap.size) (exT 2)) ((((((((Blk.new _ _ _).alloc _).alloc _).alloc _).alloc _).alloc _).alloc _).alloc _) agg_image) rfl ?_
  exact ⟨exTV w.heap.size, rfl, exT_at ((((new4 _ _ _ _ _ _ _).alloc _).alloc _).alloc _) (((new5 _ _ _ _ _ _ _ _).alloc _).alloc _) (new7 _ _ _ _ _ _ _ _ _ _), by (repeat (first | with_reducible (refine Keep.drew ?_) | with_reducible (refine Keep.drewN ?_ _) | with_reducible (refine Keep.setCell ?_ (by simp) _) | with_reducible (refine Keep.alloc ?_ _) | with_reducible (exact Keep.refl _ _)))⟩
set_option maxRecDepth 100000 in
set_option maxHeartbeats 4000000 in
theorem three_yes (w : World) : Calls Tryd.prog 66 #[.bool true] w fun e w' => ∃ v, e = .returned (.agg (imgCells v (exT 9)).toArray) ∧ ImgAt w' v (exT 9) ∧ Keep [] w w' := by
  go_enter Tryd.func66, Tryd.ntmps66
  go_wp2_with fail
  refine bodyPost_ret (results_blk rfl _ rfl (vs := imgCells (exTV w.heap.size) (exT 9)) ((((((((Blk.new _ _ _).alloc _).alloc _).alloc _).alloc _).alloc _).alloc _).alloc _) agg_image) rfl ?_
  exact ⟨exTV w.heap.size, rfl, exT_at ((((new4 _ _ _ _ _ _ _).alloc _).alloc _).alloc _) (((new5 _ _ _ _ _ _ _ _).alloc _).alloc _) (new7 _ _ _ _ _ _ _ _ _ _), by (repeat (first | with_reducible (refine Keep.drew ?_) | with_reducible (refine Keep.drewN ?_ _) | with_reducible (refine Keep.setCell ?_ (by simp) _) | with_reducible (refine Keep.alloc ?_ _) | with_reducible (exact Keep.refl _ _)))⟩
end Go.Proofs.YtggjhjbcdnffnaaDoor

namespace Go.Proofs.YtggjhjbcdnffnaaDoor
open Go.RowKit
attribute [local go_sem] Oper.semAt_some

def holdsB (c : Crt) (x : Img) : Bool := ((admM x).2.2 == 0) && eqW (wordsC c) (wordsC (admM x).1)
theorem crt_one (v : CrtV) (c : Crt) : ∀ u ∈ crtCells v c, u.oneCell' = true := by
  intro u hu
  simp [crtCells] at hu
  rcases hu with rfl | rfl <;> rfl
set_option maxRecDepth 100000 in
set_option maxHeartbeats 2000000 in
theorem holds_any (v : ImgV) (x : Img) (vc : CrtV) (c : Crt) (w : World) (hTb : Tab w) (h : ImgAt w v x) (hc : CrtAt w vc c) :
    Calls Tryd.prog 34 #[.agg (crtCells vc c).toArray, .agg (imgCells v x).toArray] w fun e w' => e = .returned (.bool (holdsB c x)) ∧ Keep [] w w' := by
  obtain ⟨W0, hW0⟩ : ∃ W0, (w.alloc (.cells (crtCells vc c).toArray 72)).alloc (.cells (imgCells v x).toArray 26) = W0 := ⟨_, rfl⟩
  have b0 : Blk W0 w.heap.size 72 (crtCells vc c).toArray := by rw [← hW0]; exact (Blk.new _ _ _).alloc _
  have b1 : Blk W0 (w.heap.size + 1) 26 (imgCells v x).toArray := by rw [← hW0]; exact Blk.new1 _ _ _ _
  have K0 : Keep [] w W0 := by rw [← hW0]; exact ((Keep.refl [] w).alloc _).alloc _
  have HIC : Hid ((imgCells v x).length = 4) := show _ = _ from rfl
  have HCC : Hid ((crtCells vc c).length = 2) := show _ = _ from rfl
  have HCI : Hid (CellsAt W0 (w.heap.size + 1) 0 (imgCells v x)) := b1.cellsAt
  have HCr : Hid (∀ w', Keep [] W0 w' → CellsAt w' w.heap.size 0 (crtCells vc c)) := fun w' k => (b0.keep0 k).cellsAt
  have HA := Lib.hid (admit_any v x W0 (hTb.keep0 K0) (h.keep0 K0))
  have HSm := fun dv d w' (k : Keep [] W0 w') hd => Lib.hid (same_any vc dv c d w' (hc.keep0 (K0.then k)) hd)
  have HH : Hid (holdsB c x = (((admM x).2.2 == 0) && eqW (wordsC c) (wordsC (admM x).1))) := show _ = _ from rfl
  have HK0 := Lib.hid K0
  have HW := Lib.hid hW0
  clear hTb h hc b0 b1 K0 hW0
  generalize imgCells v x = il at *
  generalize crtCells vc c = cl at *
  generalize admM x = r at *
  obtain ⟨d, at_, er⟩ := r
  simp only at HH
  go_enter Tryd.func34, Tryd.ntmps34
  go_wp2_with (first
    | rw [HW.out]
    | (refine wpList_load_agg rfl 26 (.tmp 3) rfl rfl (cs := il) (by rw [HIC.out]; exact agg_image) HCI.out ?_))
  refine HA.out.mono ?_
  rintro e w1 ⟨dv, rfl, hd, k1⟩
  have HDC : Hid ((crtCells dv d).length = 2) := show _ = _ from rfl
  have hone : Hid (∀ u ∈ crtCells dv d, u.oneCell' = true) := crt_one dv d
  have HS := fun w' (k : Keep [] w1 w') => HSm dv d w' (k1.then k) (hd.keep0 k)
  have HKE := Lib.hid (HK0.out.then k1)
  have HCr1 : Hid (∀ w', Keep [] w1 w' → CellsAt w' w.heap.size 0 cl) := fun w' k => HCr.out w' (k1.then k)
  clear HSm hd k1 HCr HA HCI
  simp only
  generalize crtCells dv d = dl at *
  go_wp2_with (refine stop_store 72 (.tmp 5) (.tmp 11) rfl ?_)
  constructor
  refine wpList_store_all rfl 72 (.tmp 5) (.tmp 11) rfl rfl rfl (vs := dl) (by rw [HDC.out]; exact agg_cert.2) (Blk.new _ _ _) hone.out ?_ ?_
  · rw [HDC.out]; rfl
  intro w3 d3 k3
  have k13 : Keep [] w1 w3 := ((Keep.refl [] w1).alloc _).trans k3 (fun y hy hlt => by simp at hy; omega)
  have hA3 := Lib.hid d3.cellsAt
  have hC3 := Lib.hid (HCr1.out w3 k13)
  have HSw := HS w3 k13
  have HK3 := Lib.hid (HKE.out.then k13)
  clear k3 k13 d3 HS HCr1
  by_cases hz : er = 0
  · subst hz
    have HX : Hid (holdsB c x = eqW (wordsC c) (wordsC d)) := by show _ = _; rw [HH.out]; simp
    clear HH
    go_wp2_with (first
      | (refine wpList_agg_gd rfl 72 (.tmp 2) rfl rfl (cs := cl) (by rw [HCC.out]; exact agg_cert) hC3.out ?_)
      | (refine wpList_agg_gd rfl 72 (.tmp 5) rfl rfl (cs := dl) (by rw [HDC.out]; exact agg_cert) hA3.out ?_))
    refine HSw.out.mono ?_
    rintro e w4 ⟨rfl, k4⟩
    go_wp2
    go_ret
    exact ⟨by rw [HX.out]; rfl, HK3.out.then k4⟩
  · have hz1 : (er == 0) = false := by simpa using hz
    have HX : Hid (holdsB c x = false) := by show _ = _; rw [HH.out, hz1]; rfl
    clear HH hz
    go_wp2
    go_ret
    exact ⟨by rw [HX.out]; rfl, HK3.out⟩

/-- A task's response in a mode. -/
def respC (l : List RowM) (t : Int) : Option Int := (l.find? (fun r => r.task == t)).map RowM.resp
def noRow (R : List RowM) (t : Int) (k : Nat) : Prop := (R.take k).find? (fun r => r.task == t) = none
set_option maxRecDepth 100000 in
set_option maxHeartbeats 2000000 in
theorem respC_any (vc : CrtV) (c : Crt) (m : Nat) (t : Int) (w : World) (hc : CrtAt w vc c) (hm : m < c.modes.length) :
    Calls Tryd.prog 67 #[.agg (crtCells vc c).toArray, .int .i64 (m : Int), .int .i64 t] w fun e w' => e = .returned (numRes (respC c.modes[m] t)) ∧ Keep [] w w' := by
  obtain ⟨W0, hW0⟩ : ∃ W0, w.alloc (.cells (crtCells vc c).toArray 72) = W0 := ⟨_, rfl⟩
  have b0 : Blk W0 w.heap.size 72 (crtCells vc c).toArray := by rw [← hW0]; exact Blk.new _ _ _
  have K0 : Keep [] w W0 := by rw [← hW0]; exact (Keep.refl [] w).alloc _
  have hlm := hc.lm
  have hlr := hc.lr _ (List.getElem_mem hm)
  obtain ⟨bm, om, hma, hbm, hmo⟩ := (hc.keep0 K0).mode (by omega)
  obtain ⟨A, cp, q1, hrd⟩ := hmo m hm
  have q0 : W0.cell? ⟨w.heap.size, 0, none⟩ = some (.slice vc.ma c.modes.length vc.mc) := by rw [b0.cell]; rfl
  rw [hma] at q0
  have hm0 : (0 : Int) ≤ (m : Int) := by omega
  have hm1 : (m : Int) < (c.modes.length : Int) := by omega
  have HRd := Lib.hid hrd
  have HLR := Lib.hid hlr
  have HK0 := Lib.hid K0
  have HW := Lib.hid hW0
  clear hmo hma b0 K0 hW0 hc hrd
  generalize c.modes[m] = R at *
  generalize (crtCells vc c).toArray = cl at *
  go_enter Tryd.func67, Tryd.ntmps67
  clear hlr
  go_wp2_with (rw [HW.out])
  have HQ : Hid (∀ k, (hk : k < R.length) → (R.take k).find? (fun r => r.task == t) = none → ((R[k].task == t) = true → respC R t = some R[k].resp) ∧ ((R[k].task == t) = false → (R.take (k + 1)).find? (fun r => r.task == t) = none)) := by
    intro k hk hn
    refine ⟨fun h => ?_, fun h => ?_⟩
    · unfold respC
      conv => lhs; rw [← List.take_append_drop k R, List.drop_eq_getElem_cons hk]
      rw [List.find?_append, hn, List.find?_cons, h]
      rfl
    · rw [List.take_succ_eq_append_getElem hk, List.find?_append, hn]
      simp [h]
  go_loopw [25] (fun vi wr => ∃ k : Nat, k ≤ R.length ∧ vi = .int .i64 (k : Int) ∧ noRow R t k ∧ Keep [] W0 wr) (fun vi _ => R.length - (intOf vi).toNat)
  case atStart => exact ⟨0, Nat.zero_le _, rfl, (show _ = _ from rfl), Keep.refl _ _⟩
  case round =>
    obtain ⟨k, hk, rfl, hn, hK⟩ := hrel
    have hlr := HLR.out
    by_cases hlt : k < R.length
    · obtain ⟨b, o, hA, hbw, hrc⟩ := (HRd.out.keep0 hK).elems rfl (fun _ _ => rfl) (by omega)
      have hq := Lib.hid (hrc k hlt)
      obtain ⟨hy, hno⟩ := HQ.out k hlt hn
      have hq : Hid (CellsAt wr b (o + k * 3) [.int .i64 R[k].task, .int .i64 R[k].block, .int .i64 R[k].resp]) := hq
      have HY := Lib.hid hy
      have HNO := Lib.hid hno
      have hk0 : (0 : Int) ≤ (k : Int) := by omega
      have hk1 : (k : Int) < (R.length : Int) := by omega
      clear hrc hy hno hn
      rw [hA] at *
      generalize R[k].task = ra at *
      generalize R[k].block = rb at *
      generalize R[k].resp = rc at *
      obtain ⟨V, hV⟩ : ∃ V, wr.alloc (.cells #[.int .i64 ra, .int .i64 rb, .int .i64 rc] 78) = V := ⟨_, rfl⟩
      have KV : Keep [] wr V := by rw [← hV]; exact (Keep.refl _ wr).alloc _
      have dV : Blk V wr.heap.size 78 #[.int .i64 ra, .int .i64 rb, .int .i64 rc] := by rw [← hV]; exact Blk.new _ _ _
      have HV := Lib.hid hV
      have e0 := dV.cell 0
      have e2 := dV.cell 2
      simp at e0 e2
      clear hV dV
      by_cases he : ra = t
      · have hb : (ra == t) = true := by simpa using he
        have HX := Lib.hid (HY.out hb)
        clear he HY HNO
        go_wp2_with (first | rw [HV.out] | (refine wpList_load_agg rfl 78 (.tmp 27) rfl rfl (cs := [.int .i64 ra, .int .i64 rb, .int .i64 rc]) agg_row hq.out ?_))
        go_ret2
        exact ⟨by rw [HX.out]; rfl, HK0.out.then (hK.then KV)⟩
      · have hb : (ra == t) = false := by simpa using he
        have HX := Lib.hid (HNO.out hb)
        clear he HY HNO
        go_wp2_with (first | rw [HV.out] | (refine wpList_load_agg rfl 78 (.tmp 27) rfl rfl (cs := [.int .i64 ra, .int .i64 rb, .int .i64 rc]) agg_row hq.out ?_))
        go_roundw
        case rel => exact ⟨_, _, _, _, ⟨k + 1, by omega, by go_num, HX.out, hK.then KV⟩, rfl, rfl, rfl, rfl⟩
        case measure => simp [intOf] <;> omega
    · obtain rfl : k = R.length := by omega
      have HX : Hid (respC R t = none) := by
        show _ = _
        have hn : (R.take R.length).find? (fun r => r.task == t) = none := hn
        rw [List.take_length] at hn
        unfold respC
        rw [hn]; rfl
      clear hn
      go_wp2
      go_ret2
      exact ⟨by rw [HX.out]; rfl, HK0.out.then hK⟩
end Go.Proofs.YtggjhjbcdnffnaaDoor

namespace Go.Proofs.YtggjhjbcdnffnaaDoor
open Go.RowKit
attribute [local go_sem] Oper.semAt_some

def few21 (x : Img) : Bool := !greatImg x && perB x.tasks
set_option maxRecDepth 100000 in
set_option maxHeartbeats 2000000 in
theorem few21_any (v : ImgV) (x : Img) (w : World) (h : ImgAt w v x) : Calls Tryd.prog 31 #[.agg (imgCells v x).toArray] w fun e w' => e = .returned (.bool (few21 x)) ∧ Keep [] w w' := by
  have hl := h.lt
  unfold maxLen at hl
  obtain ⟨W0, hW0⟩ : ∃ W0, w.alloc (.cells (imgCells v x).toArray 26) = W0 := ⟨_, rfl⟩
  have b0 : Blk W0 w.heap.size 26 (imgCells v x).toArray := by rw [← hW0]; exact img_box w v x
  have K0 : Keep [] w W0 := by rw [← hW0]; exact (Keep.refl [] w).alloc _
  have HC0 : Hid (∀ w', Keep [] W0 w' → CellsAt w' w.heap.size 0 (imgCells v x)) := fun w' hk => (b0.keep0 hk).cellsAt
  have HI1 : Hid (∀ w', Keep [] W0 w' → w'.cell? ⟨w.heap.size, 1, none⟩ = some (.slice v.ta x.tasks.length v.tc)) := fun w' hk => img_c1 (b0.keep0 hk)
  have HIC : Hid ((imgCells v x).length = 4) := show _ = _ from rfl
  have HG := Lib.hid (great_any v x W0 (h.keep0 K0))
  have HF : Hid (few21 x = (!greatImg x && perB x.tasks)) := show _ = _ from rfl
  have HI := Lib.hid h
  have HL := Lib.hid hl
  have HW := Lib.hid hW0
  clear b0 h hW0 hl
  generalize imgCells v x = il at *
  generalize greatImg x = gb at *
  cases gb with
  | true =>
    have HX : Hid (few21 x = false) := by show _ = _; rw [HF.out]; rfl
    go_enter Tryd.func31, Tryd.ntmps31
    go_wp2_with (first
      | rw [HW.out]
      | (refine wpList_load_agg rfl 26 (.tmp 1) rfl rfl (cs := il) (by rw [HIC.out]; exact agg_image) (HC0.out _ (Keep.refl _ _)) ?_))
    refine HG.out.mono ?_
    rintro e w2 ⟨rfl, k2⟩
    go_wp2
    go_ret
    exact ⟨by rw [HX.out]; rfl, K0.then k2⟩
  | false =>
    have HX : Hid (few21 x = perB x.tasks) := by show _ = _; rw [HF.out]; rfl
    go_enter Tryd.func31, Tryd.ntmps31
    go_wp2_with (first
      | rw [HW.out]
      | (refine wpList_load_agg rfl 26 (.tmp 1) rfl rfl (cs := il) (by rw [HIC.out]; exact agg_image) (HC0.out _ (Keep.refl _ _)) ?_))
    refine HG.out.mono ?_
    rintro e w2 ⟨rfl, k2⟩
    have hct := HI1.out w2 k2
    have HK3 := Lib.hid (K0.then k2)
    clear HG HF HC0 HI1 k2 K0
    go_wp2
    go_loopw [3] (fun i wr => ∃ k : Nat, k ≤ x.tasks.length ∧ i = .int .i64 k ∧ Hid (perB x.tasks = perB (x.tasks.drop k)) ∧ wr = w2) (fun i _ => x.tasks.length - (intOf i).toNat)
    case atStart => exact ⟨0, Nat.zero_le _, rfl, rfl, rfl⟩
    case round =>
      obtain ⟨k, hk, rfl, HR, rfl⟩ := hrel
      have hl := HL.out
      by_cases hlt : k < x.tasks.length
      · obtain ⟨b, o, hA, hbw, hcs⟩ := HI.out.task (by omega)
        have hp := ((hcs k hlt).keep0 HK3.out hbw) 0 (.int .i64 x.tasks[k].per) rfl
        have hst := perB_drop x.tasks k hlt
        rw [Nat.add_zero] at hp
        rw [hA] at hct
        have p0 : (0 : Int) ≤ (k : Int) := by omega
        have p1 : (k : Int) < (x.tasks.length : Int) := by omega
        have p2 : decide ((k : Int) < (x.tasks.length : Int)) = true := by simp; omega
        clear hcs
        generalize x.tasks[k].per = z at *
        rcases Int.lt_or_le 400 z with h1 | h1
        · have HX2 : Hid (few21 x = false) := by show _ = _; rw [HX.out, HR.out, hst, decide_eq_false (show ¬ z ≤ 400 by omega)]; rfl
          clear hst HR
          go_wp2
          go_ret
          exact ⟨by rw [HX2.out]; rfl, HK3.out⟩
        · have HX2 : Hid (perB x.tasks = perB (x.tasks.drop (k + 1))) := by show _ = _; rw [HR.out, hst, decide_eq_true h1]; rfl
          clear hst HR
          go_wp2
          go_roundw
          case rel => exact ⟨k + 1, by omega, by go_num, HX2, by trivial⟩
          case measure => simp [intOf] <;> omega
      · obtain rfl : k = x.tasks.length := by omega
        have HX2 : Hid (few21 x = true) := by show _ = _; rw [HX.out, HR.out, List.drop_length]; rfl
        have p2 : decide ((x.tasks.length : Int) < (x.tasks.length : Int)) = false := by simp
        clear HR
        go_wp2
        go_ret
        exact ⟨by rw [HX2.out]; rfl, HK3.out⟩

set_option maxRecDepth 100000 in
set_option maxHeartbeats 2000000 in
theorem alive21 (w : World) (hT : Tab w) : Calls Tryd.prog 33 #[] w fun e w' => e = .returned (.bool true) ∧ Keep [] w w' := by
  go_enter Tryd.func33, Tryd.ntmps33
  go_wp2_with fail
  refine (three_no _).mono ?_
  rintro e w1 ⟨v, rfl, hI, k1⟩
  have HA := Lib.hid (admit_any v (exT 2) w1 (hT.keep0 k1) hI)
  rw [exT_adm] at HA
  have HK1 := Lib.hid k1
  clear hI k1
  generalize imgCells v (exT 2) = il at *
  go_wp2_with fail
  refine HA.out.mono ?_
  rintro e w2 ⟨dv, rfl, hd, k2⟩
  have HK2 := Lib.hid (HK1.out.then k2)
  have HRs := fun w' (k : Keep [] w2 w') => Lib.hid (respC_any dv (fullCrt (exT 2)) 0 1 w' (hd.keep0 k) (by simp [fullCrt, exT]))
  have hrs : respC ((fullCrt (exT 2)).modes[0]'(by simp [fullCrt, exT])) 1 = some 7 := by
    rw [show ((fullCrt (exT 2)).modes[0]'(by simp [fullCrt, exT])) = modeRows (exT 2) 0 by simp [fullCrt, exT], exT_rows]
    rfl
  rw [hrs] at HRs
  have hel : (fullCrt (exT 2)).edges.length = 4 := by simp [fullCrt, exT]
  have HDC : Hid ((crtCells dv (fullCrt (exT 2))).length = 2) := show _ = _ from rfl
  have hone : Hid (∀ u ∈ crtCells dv (fullCrt (exT 2)), u.oneCell' = true) := crt_one dv _
  have HC1 : Hid (∀ g w', Blk w' g 72 (crtCells dv (fullCrt (exT 2))).toArray → w'.cell? ⟨g, 1, none⟩ = some (.slice dv.ea 4 dv.ec)) := fun g w' h => by rw [h.cell, ← hel]; rfl
  clear hd k2 HA hrs hel
  simp only
  generalize crtCells dv (fullCrt (exT 2)) = dl at *
  go_wp2_with (refine stop_store 72 (.tmp 1) (.tmp 12) rfl ?_)
  constructor
  refine wpList_store_all rfl 72 (.tmp 1) (.tmp 12) rfl rfl rfl (vs := dl) (by rw [HDC.out]; exact agg_cert.2) (Blk.new _ _ _) hone.out ?_ ?_
  · rw [HDC.out]; rfl
  intro w3 d3 k3
  have k23 : Keep [] w2 w3 := ((Keep.refl [] w2).alloc _).trans k3 (fun y hy hlt => by simp at hy; omega)
  have HK3 := Lib.hid k23
  have HD3 := Lib.hid d3
  clear k3 k23 d3
  go_wp2_with fail
  refine (three_yes _).mono ?_
  rintro e w4 ⟨v4, rfl, hI4, k4⟩
  have HA := Lib.hid (admit_any v4 (exT 9) w4 (hT.keep0 (HK2.out.then (HK3.out.then k4))) hI4)
  have hbad := exT_bad
  have HK4 := Lib.hid k4
  clear hI4 k4 hT
  generalize imgCells v4 (exT 9) = il4 at *
  generalize admM (exT 9) = r at *
  obtain ⟨d9, a9, e9⟩ := r
  simp only at hbad
  obtain ⟨rfl, rfl⟩ := Prod.mk.injEq .. ▸ hbad
  clear hbad
  go_wp2_with fail
  refine HA.out.mono ?_
  rintro e w5 ⟨dv9, rfl, _, k5⟩
  have HDC9 : Hid ((crtCells dv9 d9).length = 2) := show _ = _ from rfl
  have hone9 : Hid (∀ u ∈ crtCells dv9 d9, u.oneCell' = true) := crt_one dv9 _
  simp only
  generalize crtCells dv9 d9 = dl9 at *
  have HK5 := Lib.hid (HK4.out.then k5)
  clear k5 HA HK4
  go_wp2_with (refine stop_store 72 (.tmp 4) (.tmp 18) rfl ?_)
  constructor
  refine wpList_store_all rfl 72 (.tmp 4) (.tmp 18) rfl rfl rfl (vs := dl9) (by rw [HDC9.out]; exact agg_cert.2) (Blk.new _ _ _) hone9.out ?_ ?_
  · rw [HDC9.out]; rfl
  intro w6 d6 k6
  have k56 : Keep [] w5 w6 := ((Keep.refl [] w5).alloc _).trans k6 (fun y hy hlt => by simp at hy; omega)
  have HK6 := Lib.hid (HK5.out.then k56)
  have HD6 := Lib.hid (HD3.out.keep0 HK6.out)
  have hA6 := Lib.hid HD6.out.cellsAt
  have HR6 := HRs w6 (HK3.out.then HK6.out)
  clear k6 k56 d6 HK5 HD3 HRs
  go_wp2_with (refine wpList_load_agg rfl 72 (.tmp 1) rfl rfl (cs := dl) (by rw [HDC.out]; exact agg_cert) hA6.out ?_)
  refine HR6.out.mono ?_
  rintro e w7 ⟨rfl, k7⟩
  have q1 := HC1.out w2.heap.size w7 (HD6.out.keep0 k7)
  have HK7 := Lib.hid (HK2.out.then (HK3.out.then (HK6.out.then k7)))
  clear k7
  rw [numRes_some]
  go_wp2
  go_ret
  exact ⟨rfl, HK7.out⟩
end Go.Proofs.YtggjhjbcdnffnaaDoor
