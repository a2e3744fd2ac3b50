/- The document's begin (law08), walked. Condition: the device is one that may be. -/
import Derived.Test.YteanpgkonhdbpaaBkV
namespace Go.Proofs.Yteanpgkonhdbpaa
open Go.RowKit

/-- The order in which the document erases. -/
def ordE (ns k : Nat) : List Nat := (List.range k).map (fun i => (i + 1) % ns)
theorem ordE_succ (ns k : Nat) : ordE ns (k + 1) = ordE ns k ++ [(k + 1) % ns] := by
  unfold ordE
  rw [List.range_succ, List.map_append]
  rfl
theorem ordE_split (ns : Nat) : ∀ {k m : Nat}, k ≤ m → ∃ r, ordE ns m = ordE ns k ++ r
  | k, 0, h => ⟨[], by rw [show k = 0 by omega]; rfl⟩
  | k, m + 1, h => by
    by_cases hk : k = m + 1
    · exact ⟨[], by rw [hk, List.append_nil]⟩
    · obtain ⟨r, hr⟩ := ordE_split ns (show k ≤ m by omega)
      exact ⟨r ++ [(m + 1) % ns], by rw [ordE_succ, hr, List.append_assoc]⟩
def wornA (d : Dev) : Bool := (List.range d.ns).any (fun s => decide (d.lim ≤ d.worn.getD s 0))
/-- What begin leaves of the device, and its error. -/
def begD (d : Dev) : Dev × Int := if (progS d 0 0 0).2 = 0 then erasesL (progS d 0 0 0).1 (ordE d.ns d.ns) else progS d 0 0 0
def beginD (x : BenS) : BenS × Int :=
  if x.d.on = false then ({ x with opn := false }, 63)
  else if wornA x.d = true then ({ x with opn := false }, 62)
  else (⟨(begD x.d).1, decide ((begD x.d).2 = 0), []⟩, (begD x.d).2)

set_option maxRecDepth 100000 in
set_option maxHeartbeats 8000000 in
theorem begin_any08 (base : Nat) (F : List Nat) (g gb : Nat) (x : BenS) (A1 A2 : Option Addr) (c1 c2 : Nat) (Ap : Option Addr) (cp : Nat) (w : World) (hx : BenAt base F w A1 A2 c1 c2 Ap x) (ho : x.d.Ok) (hF : ∀ y ∈ F, y < w.heap.size) (hbase : base ≤ w.heap.size) :
    Calls Try.prog 79 #[.agg (benchV g gb x A1 A2 c1 c2 Ap cp).toArray] w (RetBen base F w g gb (beginD x).1 (beginD x).2) := by
  obtain ⟨b0, b1, k1, hsz⟩ := boxB_facts w (benchV g gb x A1 A2 c1 c2 Ap cp)
  have HW : Hid ((w.alloc (.cells (benchV g gb x A1 A2 c1 c2 Ap cp).toArray 76)).alloc (.cells zeroBen 76) = boxB w (benchV g gb x A1 A2 c1 c2 Ap cp)) := show _ = _ from rfl
  generalize boxB w (benchV g gb x A1 A2 c1 c2 Ap cp) = W at *
  have HA : Hid (AggOf Try.prog 76 14) := agg_ben
  have HAR : Hid (AggOf Try.prog 57 10) := agg_ref
  have HBD : Hid (beginD x = if x.d.on = false then ({ x with opn := false }, 63) else if wornA x.d = true then ({ x with opn := false }, 62) else (⟨(begD x.d).1, decide ((begD x.d).2 = 0), []⟩, (begD x.d).2)) := show _ = _ from rfl
  have HBG : Hid (begD x.d = if (progS x.d 0 0 0).2 = 0 then erasesL (progS x.d 0 0 0).1 (ordE x.d.ns x.d.ns) else progS x.d 0 0 0) := show _ = _ from rfl
  generalize beginD x = res at *
  have gf := Blk.frozen b0 12
  have hgl := Blk.lt b0
  have hgc : W.cell? ⟨w.heap.size, 12, none⟩ = some (.bool x.opn) := b0.cell 12
  have s0 := Blk.set_ b0 12 (.bool false)
  rw [bench_put_opn] at s0
  have HS0 := Lib.hid s0
  have HK1 : Hid (Keep [] w (W.setCell ⟨w.heap.size, 12, none⟩ (.bool false))) := k1.trans (keep_set W w.heap.size 12 (.bool false)) (fun y hy hl => by simp only [List.mem_cons, List.not_mem_nil, or_false] at hy; omega)
  have HB1 : Hid (Blk (W.setCell ⟨w.heap.size, 12, none⟩ (.bool false)) (w.heap.size + 1) 76 zeroBen) := b1.keep (keep_set W w.heap.size 12 (.bool false)) (by simp)
  have hszW : (W.setCell ⟨w.heap.size, 12, none⟩ (.bool false)).heap.size = w.heap.size + 2 := by simp [hsz]
  have HX := Lib.hid hx
  have HO := Lib.hid ho
  have HFF := Lib.hid hF
  clear b0 b1 k1 s0 hx ho hF
  go_enter Try.func79, Try.ntmps79
  go_upto_region 2 with (rw [HW.out])
  clear gf hgc hgl HW
  generalize W.setCell ⟨w.heap.size, 12, none⟩ (.bool false) = W1 at *
  obtain ⟨_, _, bc2, bc3, bc4, bc5, bc6, bc7, _, _⟩ := bench_cells g gb { x with opn := false } A1 A2 c1 c2 Ap cp
  have d2 := HS0.out.cell 2
  have d4 := HS0.out.cell 4
  have d6 := HS0.out.cell 6
  have d7 := HS0.out.cell 7
  rw [bc2] at d2
  rw [bc4] at d4
  rw [bc6] at d6
  rw [bc7] at d7
  have HC : Hid (∀ W', Keep [] W1 W' → W'.cell? ⟨w.heap.size, 2, none⟩ = some (.int .i64 (x.d.ns : Int)) ∧ W'.cell? ⟨w.heap.size, 4, none⟩ = some (.int .i64 (x.d.lim : Int)) ∧ W'.cell? ⟨w.heap.size, 6, none⟩ = some (.slice A2 x.d.worn.length c2)) := fun W' kk => by
    have h := HS0.out.keep0 kk
    refine ⟨(h.cell 2).trans bc2, (h.cell 4).trans bc4, (h.cell 6).trans bc6⟩
  clear bc2 bc3 bc4 bc5 bc6 bc7
  cases hon : x.d.on with
  | false =>
    have HRS : Hid (res = ({ x with opn := false }, 63)) := by show _ = _; rw [HBD.out, if_pos hon]
    rw [hon] at d7
    have d7' : W1.cell? ⟨w.heap.size, 7, none⟩ = some (.bool true) := d7
    clear d7
    go_wp2_with (first
      | (refine wpList_load_agg rfl 76 (.tmp 1) rfl rfl (cs := benchV g gb { x with opn := false } A1 A2 c1 c2 Ap cp) HA.out ?_ ?_; exact HS0.out.cellsAt)
      | (refine wpList_store_all rfl 76 (.tmp 2) (.tmp 11) rfl rfl rfl (t := 76) (cs := zeroBen) (vs := benchV g gb { x with opn := false } A1 A2 c1 c2 Ap cp) HA.out.2 ?_ (benchV_one _ _ _ _ _ _ _ _ _) rfl ?_; exact HB1.out; intro w2 e2 k2))
    refine bodyPost_ret (results_blk_tmp rfl _ rfl rfl e2 HA.out) rfl ?_
    rw [HRS.out]
    have kk : Keep [] w w2 := HK1.out.trans k2 (fun y hy hl => by simp only [List.mem_cons, List.not_mem_nil, or_false] at hy; omega)
    exact ⟨_, _, _, _, _, _, rfl, ⟨(HX.out.keep0 kk).rows, (HX.out.keep0 kk).put, (HX.out.keep0 kk).off⟩, kk⟩
  | true =>
    rw [hon] at d7
    have d7' : W1.cell? ⟨w.heap.size, 7, none⟩ = some (.bool false) := d7
    clear d7 d4 d6 d2
    have hns := HO.out.ns2
    have hns1 := HO.out.ns1
    have hwl := HO.out.wlen
    have HBD2 : Hid (res = if wornA x.d = true then ({ x with opn := false }, 62) else (⟨(begD x.d).1, decide ((begD x.d).2 = 0), []⟩, (begD x.d).2)) := by show _ = _; rw [HBD.out, if_neg (by rw [hon]; decide)]
    clear HBD
    go_wp2_with fail
    go_loopw [4] (fun v wr => ∃ k : Nat, k ≤ x.d.ns ∧ v = .int .i64 (k : Int) ∧ (∀ i, i < k → ¬ x.d.lim ≤ x.d.worn.getD i 0) ∧ Keep [] W1 wr) (fun v _ => x.d.ns - (intOf v).toNat)
    case atStart => exact ⟨0, Nat.zero_le _, rfl, fun i hi => absurd hi (Nat.not_lt_zero _), Keep.refl _ _⟩
    case round =>
      obtain ⟨k, hk, rfl, hno, hkp⟩ := hrel
      obtain ⟨d2, d4, d6⟩ := HC.out wr hkp
      by_cases hlt : k < x.d.ns
      · have hlw : k < x.d.worn.length := by rw [hwl]; exact hlt
        obtain ⟨bo, oo, hA2, hbo, hcs⟩ := HX.out.rows.at_.worn.addr (by omega)
        have hcw : w.cell? ⟨bo, oo + k, none⟩ = some (.int .i64 ((x.d.worn.getD k 0 : Nat) : Int)) := hcs k _ (by rw [List.getElem?_map, List.getElem?_eq_getElem hlw, List.getD_eq_getElem?_getD, List.getElem?_eq_getElem hlw]; rfl)
        have hC2 : ∀ W', Keep [] wr W' → W'.cell? ⟨w.heap.size, 6, none⟩ = some (.slice (some ⟨bo, oo, none⟩) x.d.worn.length c2) ∧ W'.cell? ⟨bo, oo + k, none⟩ = some (.int .i64 ((x.d.worn.getD k 0 : Nat) : Int)) ∧ W'.cell? ⟨w.heap.size, 4, none⟩ = some (.int .i64 (x.d.lim : Int)) := fun W' kk => by
          obtain ⟨e2, e4, e6⟩ := HC.out W' (hkp.then kk)
          refine ⟨by rw [← hA2]; exact e6, ?_, e4⟩
          exact ((HK1.out.then (hkp.then kk)).cell (p := ⟨bo, oo + k, none⟩) hbo (by simp)).trans hcw
        rw [hA2] at d6
        have hki : (k : Int) < (x.d.ns : Int) := by omega
        have hkw : (k : Int) < (x.d.worn.length : Int) := by omega
        have hki0 : (0 : Int) ≤ (k : Int) := by omega
        have q0 : decide ((k : Int) < (x.d.ns : Int)) = true := decide_eq_true hki
        have r0 := eq_true hlt
        have hwk : IntKind.i64.wrap ((k : Int) + 1) = ((k + 1 : Nat) : Int) := by rw [show (k : Int) + 1 = ((k + 1 : Nat) : Int) by omega]; exact IntWalk.i64_in _ (by omega)
        have HWW : Hid (∃ y, x.d.worn.getD k 0 = y) := ⟨_, rfl⟩
        have HKP := Lib.hid hkp
        have HNO := Lib.hid hno
        clear hcs hcw hno hkp
        generalize hwo : x.d.worn.getD k 0 = wo at *
        have HWO := Lib.hid hwo
        clear hwo
        go_upto_region 7 with fail
        refine wp_region_flow (Keep [] wr) rfl (by kernel_rfl) (Keep.refl _ _).drew ?_
        iterate 10 (refine fl_val (v := ?_) (by rfl) ?_ ?_; rotate_left; (intro w' hS; obtain ⟨f0,f1,f2⟩ := hC2 w' hS; go_simp; with_reducible rfl); simp only [Act.put, List.setIfInBounds_toArray, List.set_cons_zero, List.set_cons_succ])
        refine fl_nil ?_
        intro w4 hS
        have hB4 := Lib.hid (HS0.out.keep0 (HKP.out.then hS))
        have hB84 := Lib.hid (HB1.out.keep0 (HKP.out.then hS))
        have HK4 := Lib.hid (HKP.out.then hS)
        clear d2 d4 d6
        by_cases hwn : x.d.lim ≤ wo
        · have q1 : decide ((x.d.lim : Int) ≤ (wo : Int)) = true := decide_eq_true (by omega)
          have r1 := eq_true hwn
          have HRS : Hid (res = ({ x with opn := false }, 62)) := by
            show _ = _
            rw [HBD2.out, if_pos ?_]
            unfold wornA
            rw [List.any_eq_true]
            exact ⟨k, List.mem_range.2 hlt, decide_eq_true (by rw [HWO.out]; exact hwn)⟩
          clear hS hC2 HBD2
          go_wp2_with (first
            | (refine wpList_load_agg rfl 76 (.tmp 1) rfl rfl (cs := benchV g gb { x with opn := false } A1 A2 c1 c2 Ap cp) HA.out ?_ ?_; exact hB4.out.cellsAt)
            | (refine wpList_store_all rfl 76 (.tmp 2) (.tmp 29) rfl rfl rfl (t := 76) (cs := zeroBen) (vs := benchV g gb { x with opn := false } A1 A2 c1 c2 Ap cp) HA.out.2 ?_ (benchV_one _ _ _ _ _ _ _ _ _) rfl ?_; exact hB84.out; intro w2 e2 k2))
          refine bodyPost_ret (results_blk_tmp rfl _ rfl rfl e2 HA.out) rfl ?_
          rw [HRS.out]
          have kk : Keep [] w w2 := (HK1.out.then HK4.out).trans k2 (fun y hy hl => by simp only [List.mem_cons, List.not_mem_nil, or_false] at hy; omega)
          exact ⟨_, _, _, _, _, _, rfl, ⟨(HX.out.keep0 kk).rows, (HX.out.keep0 kk).put, (HX.out.keep0 kk).off⟩, kk⟩
        · have q1 : decide ((x.d.lim : Int) ≤ (wo : Int)) = false := decide_eq_false (by omega)
          have r1 := eq_false hwn
          clear hS hC2
          go_wp2
          go_roundw
          case rel =>
            refine ⟨k + 1, by omega, by go_num, fun i hi => ?_, HK4.out⟩
            by_cases hik : i = k
            · rw [hik, HWO.out]; exact hwn
            · exact HNO.out i (by omega)
          case measure => simp [intOf]; omega
      · obtain rfl : k = x.d.ns := by omega
        have HNW : Hid (wornA x.d = false) := by
          show _ = _
          unfold wornA
          rw [List.any_eq_false]
          intro i hi
          simpa using hno i (List.mem_range.1 hi)
        have HBD3 : Hid (res = (⟨(begD x.d).1, decide ((begD x.d).2 = 0), []⟩, (begD x.d).2)) := by show _ = _; rw [HBD2.out, if_neg (by rw [HNW.out]; decide)]
        have HB := Lib.hid (HS0.out.keep0 hkp)
        have HB8 := Lib.hid (HB1.out.keep0 hkp)
        have HKR := Lib.hid (HK1.out.then hkp)
        have hzr := hkp.size
        have HPC : Hid (Calls Try.prog 119 #[.agg (refV x.d A1 A2 c1 c2).toArray, .int .i64 0, .int .i64 0, .int .u32 0] wr (RetRef base F wr (progS x.d 0 0 0).1 (progS x.d 0 0 0).2)) := rprog_any base F A1 A2 c1 c2 x.d wr (HX.out.rows.keep0 HKR.out) HO.out (fun y hy => by have := HFF.out y hy; omega) (by omega) 0 0 0 (by decide)
        have HO1 : Hid ((progS x.d 0 0 0).1.Ok) := progS_ok HO.out 0 0 0 (by decide)
        have HD1 : Hid (DimsJ x.d (progS x.d 0 0 0).1) := prog_dims _ _ _ _
        obtain ⟨d1, e1, hp1⟩ : ∃ d1 e1, progS x.d 0 0 0 = (d1, e1) := ⟨_, _, rfl⟩
        rw [hp1] at HPC HO1 HD1 HBG
        dsimp only at HPC HO1 HD1 HBG
        have q0 : decide ((x.d.ns : Int) < (x.d.ns : Int)) = false := decide_eq_false (by omega)
        clear hno hkp hp1 d4 d6 HBD2 HNW
        go_wp2_with (refine stop_load 57 (.tmp 31) rfl ?_)
        constructor
        refine wpList_load_agg rfl 57 (.tmp 31) rfl rfl (f := 2) (cs := refV x.d A1 A2 c1 c2) HAR.out (bench_ref (x := { x with opn := false }) HB.out) ?_
        go_wp2_with fail
        refine HPC.out.mono ?_
        rintro e w3 ⟨A1', A2', c1', c2', rfl, hro3, k3⟩
        have HB3 := Lib.hid (HB.out.keep0 k3)
        have HB83 := Lib.hid (HB8.out.keep0 k3)
        have HRO3 := Lib.hid hro3
        have HK3 := Lib.hid (HKR.out.then k3)
        clear hro3 k3 HPC d2
        go_wp2_with (refine stop_store 57 (.tmp 36) (.tmp 34) rfl ?_)
        constructor
        refine wpList_store_agg rfl 57 (.tmp 36) (.tmp 34) rfl rfl rfl (f := 2) (vs := refV d1 A1' A2' c1' c2') HAR.out.2 HB3.out (refV_one _ _ _ _ _) (by show 2 + 10 ≤ 14; decide) ?_
        intro w4 d4 k4
        rw [bench_put_ref] at d4
        have HB4 : Hid (Blk w4 w.heap.size 76 (benchV g gb ⟨d1, false, x.put⟩ A1' A2' c1' c2' Ap cp).toArray) := d4
        have HRO4 := Lib.hid (HRO3.out.keepBlk HB3.out (by decide) (by decide) k4)
        have HB84 := Lib.hid (HB83.out.keep k4 (by simp))
        have HK4 : Hid (Keep [] w w4) := HK3.out.trans k4 (fun y hy hl => by simp only [List.mem_cons, List.not_mem_nil, or_false] at hy; omega)
        have hz4 : w.heap.size + 1 < w4.heap.size := HB84.out.lt
        clear d4 k4 HB3 HB83 HRO3 HK3 HB HB8 hzr HKR HS0 HB1 hszW HK1 HC
        generalize hnsx : x.d.ns = ns at *
        go_wp2_with fail
        go_loopw [5, 6] (fun v5 v6 wr => ∃ (k : Nat) (dk : Dev) (ek : Int) (A1k A2k : Option Addr) (c1k c2k : Nat), 1 ≤ k ∧ k ≤ ns + 1 ∧ v6 = .int .i64 (k : Int) ∧ v5 = .int .i64 ek ∧ ((ek = 0 ∧ e1 = 0 ∧ erasesL d1 (ordE ns (k - 1)) = (dk, 0)) ∨ (ek ≠ 0 ∧ begD x.d = (dk, ek))) ∧ dk.Ok ∧ DimsJ x.d dk ∧
          Blk wr w.heap.size 76 (benchV g gb ⟨dk, false, x.put⟩ A1k A2k c1k c2k Ap cp).toArray ∧ ROwn base F wr A1k A2k c1k c2k dk ∧ Blk wr (w.heap.size + 1) 76 zeroBen ∧ Keep [] w wr) (fun _ v6 _ => ns + 1 - (intOf v6).toNat)
        case atStart =>
          refine ⟨1, d1, e1, A1', A2', c1', c2', Nat.le_refl _, by omega, rfl, rfl, ?_, HO1.out, HD1.out, HB4.out, HRO4.out, HB84.out, HK4.out⟩
          by_cases h : e1 = 0
          · exact .inl ⟨h, h, rfl⟩
          · exact .inr ⟨h, by rw [HBG.out, if_neg h]⟩
        case round =>
          obtain ⟨k, dk, ek, A1k, A2k, c1k, c2k, hk0, hk, rfl, rfl, hst, hok, hdm, hb, hro, hb8, hkp⟩ := hrel
          have HHB := Lib.hid hb
          have HRO := Lib.hid hro
          have HB8 := Lib.hid hb8
          have HKP := Lib.hid hkp
          have HOK := Lib.hid hok
          have HDM := Lib.hid hdm
          have hszr : w.heap.size + 1 < wr.heap.size := hb8.lt
          have c2n : wr.cell? ⟨w.heap.size, 2, none⟩ = some (.int .i64 (ns : Int)) := by
            have := hb.cell 2
            rw [(bench_cells g gb ⟨dk, false, x.put⟩ A1k A2k c1k c2k Ap cp).2.2.1] at this
            rw [this, ← hnsx, hdm.ns]
          by_cases hgo : k ≤ ns ∧ ek = 0
          · obtain ⟨hlt, rfl⟩ := hgo
            obtain ⟨he1, hp⟩ : e1 = 0 ∧ erasesL d1 (ordE ns (k - 1)) = (dk, 0) := by
              rcases hst with ⟨_, h1, h2⟩ | ⟨h, _⟩
              · exact ⟨h1, h2⟩
              · exact absurd rfl h
            have HAP := Lib.hid (erasesL_snoc (ordE ns (k - 1)) d1 dk (k % ns) hp)
            rw [show ordE ns (k - 1) ++ [k % ns] = ordE ns k by have h := ordE_succ ns (k - 1); rw [show k - 1 + 1 = k by omega] at h; exact h.symm] at HAP
            have HBE : Hid (begD x.d = erasesL d1 (ordE ns ns)) := by show _ = _; rw [HBG.out, if_pos he1]
            have HE1 := Lib.hid he1
            have hX : ∀ W', Keep [] wr W' → W'.cell? ⟨w.heap.size, 2, none⟩ = some (.int .i64 (ns : Int)) ∧ True ∧ True := fun W' kk => ⟨(kk.cell (p := ⟨w.heap.size, 2, none⟩) (by show w.heap.size < _; omega) (by simp)).trans c2n, trivial, trivial⟩
            have HCC : Hid (∀ W', Keep [] wr W' → CellsAt W' w.heap.size 2 (refV dk A1k A2k c1k c2k)) := fun W' kk => bench_ref (HHB.out.keep0 kk)
            have hr : (k : Int).tmod (ns : Int) = ((k % ns : Nat) : Int) := by rw [Int.tmod_eq_emod_of_nonneg (by omega)]; norm_cast
            have hrl : k % ns < ns := Nat.mod_lt _ (by omega)
            have HPC : Hid (∀ W', Keep [] wr W' → Calls Try.prog 120 #[.agg (refV dk A1k A2k c1k c2k).toArray, .int .i64 ((k % ns : Nat) : Int)] W' (RetRef base F W' (eraseS dk ((k % ns : Nat) : Int)).1 (eraseS dk ((k % ns : Nat) : Int)).2)) := fun W' kk => by
              have hsz' := kk.size
              exact rerase_any base F A1k A2k c1k c2k dk W' (HRO.out.keep0 kk) HOK.out (fun y hy => by have := HFF.out y hy; omega) (by omega) _
            have HO5 : Hid ((eraseS dk ((k % ns : Nat) : Int)).1.Ok) := eraseS_ok HOK.out _
            have HD5 : Hid (DimsJ x.d (eraseS dk ((k % ns : Nat) : Int)).1) := HDM.out.trans (erase_dimsB _ _)
            generalize k % ns = pr at *
            have hwk : IntKind.i64.wrap ((k : Int) + 1) = ((k + 1 : Nat) : Int) := by rw [show (k : Int) + 1 = ((k + 1 : Nat) : Int) by omega]; exact IntWalk.i64_in _ (by omega)
            have hwr : IntKind.i64.wrap (pr : Int) = (pr : Int) := IntWalk.i64_in _ (by omega)
            obtain ⟨d5, e5, hp5⟩ : ∃ d5 e5, eraseS dk (pr : Int) = (d5, e5) := ⟨_, _, rfl⟩
            rw [hp5] at HPC HO5 HD5 HAP
            dsimp only at HPC HO5 HD5
            have hz0 : ((ns : Int) == 0) = false := beq_eq_false_iff_ne.2 (by omega)
            have hz1 : ((ns : Int) = 0) = False := eq_false (by omega)
            have hz2 : (ns = 0) = False := eq_false (by omega)
            have q1 : decide ((k : Int) ≤ (ns : Int)) = true := decide_eq_true (by omega)
            have q2 : (k ≤ ns) = True := eq_true hlt
            clear hst hp hb hro hb8 hkp hok hdm hp5 hrl
            go_upto_region 14 with fail
            refine ap_begin 12 (Keep [] wr) rfl (Keep.refl _ _).drew (fun hS hPan => ?_) (fun _ _ d _ _ h => by cases d <;> exact h)
            (refine ap_val (v := ?_) 0 rfl (by kernel_rfl) (by kernel_rfl) (by kernel_rfl) (by kernel_rfl) (by rfl) hPan ?_ hS ?_; rotate_left; (intro w' hSw; go_simp; try with_reducible rfl); simp only [Act.put, List.setIfInBounds_toArray, List.set_cons_zero, List.set_cons_succ])
            refine ap_agg 1 57 (.tmp 49) (refV dk A1k A2k c1k c2k) rfl (by kernel_rfl) (by kernel_rfl) (by kernel_rfl) (by kernel_rfl) (by rfl) hPan rfl rfl HAR.out HCC.out hS ?_
            (simp only [Act.put, List.setIfInBounds_toArray, List.set_cons_zero, List.set_cons_succ])
            (refine ap_val (v := ?_) 2 rfl (by kernel_rfl) (by kernel_rfl) (by kernel_rfl) (by kernel_rfl) (by rfl) hPan ?_ hS ?_; rotate_left; (intro w' hSw; go_simp; try with_reducible rfl); simp only [Act.put, List.setIfInBounds_toArray, List.set_cons_zero, List.set_cons_succ])
            (refine ap_val (v := ?_) 3 rfl (by kernel_rfl) (by kernel_rfl) (by kernel_rfl) (by kernel_rfl) (by rfl) hPan ?_ hS ?_; rotate_left; (intro w' hSw; go_simp; try with_reducible rfl); simp only [Act.put, List.setIfInBounds_toArray, List.set_cons_zero, List.set_cons_succ])
            (refine ap_val (v := ?_) 4 rfl (by kernel_rfl) (by kernel_rfl) (by kernel_rfl) (by kernel_rfl) (by rfl) hPan ?_ hS ?_; rotate_left; (intro w' hSw; go_simp; try with_reducible rfl); simp only [Act.put, List.setIfInBounds_toArray, List.set_cons_zero, List.set_cons_succ])
            (refine ap_val (v := ?_) 5 rfl (by kernel_rfl) (by kernel_rfl) (by kernel_rfl) (by kernel_rfl) (by rfl) hPan ?_ hS ?_; rotate_left; (intro w' hSw; obtain ⟨f0,f1,f2⟩ := hX w' hSw; go_simp; try with_reducible rfl); simp only [Act.put, List.setIfInBounds_toArray, List.set_cons_zero, List.set_cons_succ])
            (refine ap_val (v := ?_) 6 rfl (by kernel_rfl) (by kernel_rfl) (by kernel_rfl) (by kernel_rfl) (by rfl) hPan ?_ hS ?_; rotate_left; (intro w' hSw; go_simp; try with_reducible rfl); simp only [Act.put, List.setIfInBounds_toArray, List.set_cons_zero, List.set_cons_succ])
            generalize wr.drew = wd at *
            refine ap_one 7 (by kernel_rfl) ?_
            refine op_call (f := 120) (vs := #[.agg (refV dk A1k A2k c1k c2k).toArray, .int .i64 (pr : Int)]) 7 rfl (by kernel_rfl) rfl (by simp only [List.map_toArray, List.map_cons, List.map_nil]; rfl) Try.func120 (by kernel_rfl) (by kernel_rfl) (HPC.out wd hS) ?_
            rintro e w5 ⟨A1', A2', c1', c2', rfl, hro5, k5⟩
            have K5 := hS.then k5
            refine ⟨_, rfl, fun _ => K5, ?_⟩
            (simp only [Act.put, List.setIfInBounds_toArray, List.set_cons_zero, List.set_cons_succ])
            have HB5 := Lib.hid (HHB.out.keep0 K5)
            have HB85 := Lib.hid (HB8.out.keep0 K5)
            have HRO5 := Lib.hid hro5
            have HK5 := Lib.hid (HKP.out.then K5)
            have HFIN : Hid (∀ w9, Keep [w.heap.size] w5 w9 → ROwn base F w9 A1' A2' c1' c2' d5 ∧ Blk w9 (w.heap.size + 1) 76 zeroBen ∧ Keep [] w w9) := fun w9 k9 => ⟨HRO5.out.keepBlk HB5.out (by decide) (by decide) k9, HB85.out.keep k9 (by simp), HK5.out.trans k9 (fun y hy hl => by simp only [List.mem_cons, List.not_mem_nil, or_false] at hy; omega)⟩
            have HST5 : Hid ((e5 = 0 ∧ e1 = 0 ∧ erasesL d1 (ordE ns k) = (d5, 0)) ∨ (e5 ≠ 0 ∧ begD x.d = (d5, e5))) := by
              show _ ∨ _
              by_cases h5 : e5 = 0
              · exact .inl ⟨h5, HE1.out, by rw [HAP.out, h5]⟩
              · refine .inr ⟨h5, ?_⟩
                obtain ⟨r, hrr⟩ := ordE_split ns hlt
                rw [HBE.out, hrr]
                exact erasesL_stop _ r _ _ _ HAP.out h5
            refine ap_one 8 (by kernel_rfl) ?_
            refine op_run (v := (.tuple #[.agg (refV d5 A1' A2' c1' c2').toArray, .int .i64 e5])) (w' := w5) 8 rfl (by kernel_rfl) (by go_simp) ?_
            refine ⟨fun _ => K5, ?_⟩
            (simp only [Act.put, List.setIfInBounds_toArray, List.set_cons_zero, List.set_cons_succ])
            replace hS := K5
            (refine ap_val (v := ?_) 9 rfl (by kernel_rfl) (by kernel_rfl) (by kernel_rfl) (by kernel_rfl) (by rfl) hPan ?_ hS ?_; rotate_left; (intro w' hSw; go_simp; try with_reducible rfl); simp only [Act.put, List.setIfInBounds_toArray, List.set_cons_zero, List.set_cons_succ])
            (refine ap_val (v := ?_) 11 rfl (by kernel_rfl) (by kernel_rfl) (by kernel_rfl) (by kernel_rfl) (by rfl) hPan ?_ hS ?_; rotate_left; (intro w' hSw; go_simp; try with_reducible rfl); simp only [Act.put, List.setIfInBounds_toArray, List.set_cons_zero, List.set_cons_succ])
            refine ap_twoJ 10 12 (by kernel_rfl) ?x1 ?y1
            case x1 =>
              refine op_run (v := (.int .i64 e5)) (w' := w5) 10 rfl (by kernel_rfl) (by go_simp) ?_
              refine ⟨fun _ => K5, ?_⟩
              (simp only [Act.put, List.setIfInBounds_toArray, List.set_cons_zero, List.set_cons_succ])
              refine ap_one 12 (by kernel_rfl) ?_
              refine op_store_part (f := 2) (vs := refV d5 A1' A2' c1' c2') 12 rfl (by kernel_rfl) rfl rfl rfl HAR.out.2 HB5.out (refV_one _ _ _ _ _) (by show 2 + 10 ≤ 14; decide) ?_
              intro w9 d9 k9
              rw [bench_put_ref] at d9
              refine ⟨fun h => (by cases h), ?_⟩
              (simp only [Act.put, List.setIfInBounds_toArray, List.set_cons_zero, List.set_cons_succ])
              refine ap_one 13 (by kernel_rfl) ?_
              refine op_run (v := (.int .i64 e5)) (w' := w9) 13 rfl (by kernel_rfl) (by go_simp) ?_
              refine ⟨fun h => (by cases h), ap_done (by kernel_rfl) ?_ _⟩
              (simp only [Act.put, List.setIfInBounds_toArray, List.set_cons_zero, List.set_cons_succ])
              have HD9 : Hid (Blk w9 w.heap.size 76 (benchV g gb ⟨d5, false, x.put⟩ A1' A2' c1' c2' Ap cp).toArray) := d9
              have HF9 := Lib.hid (HFIN.out w9 k9)
              clear d9 k9 hS hPan k5 K5 hro5 hX HPC HCC HAP HBE HHB HB8 HRO HKP HOK HDM c2n
              go_wp2
              go_roundw
              case rel => exact ⟨k + 1, d5, e5, A1', A2', c1', c2', by omega, by omega, by go_num, rfl, HST5.out, HO5.out, HD5.out, HD9.out, HF9.out.1, HF9.out.2.1, HF9.out.2.2⟩
              case measure => simp [intOf]; omega
            case y1 =>
              refine op_store_part (f := 2) (vs := refV d5 A1' A2' c1' c2') 12 rfl (by kernel_rfl) rfl rfl rfl HAR.out.2 HB5.out (refV_one _ _ _ _ _) (by show 2 + 10 ≤ 14; decide) ?_
              intro w9 d9 k9
              rw [bench_put_ref] at d9
              refine ⟨fun h => (by cases h), ?_⟩
              (simp only [Act.put, List.setIfInBounds_toArray, List.set_cons_zero, List.set_cons_succ])
              refine ap_one 10 (by kernel_rfl) ?_
              refine op_run (v := (.int .i64 e5)) (w' := w9) 10 rfl (by kernel_rfl) (by go_simp) ?_
              refine ⟨fun h => (by cases h), ?_⟩
              (simp only [Act.put, List.setIfInBounds_toArray, List.set_cons_zero, List.set_cons_succ])
              refine ap_one 13 (by kernel_rfl) ?_
              refine op_run (v := (.int .i64 e5)) (w' := w9) 13 rfl (by kernel_rfl) (by go_simp) ?_
              refine ⟨fun h => (by cases h), ap_done (by kernel_rfl) ?_ _⟩
              (simp only [Act.put, List.setIfInBounds_toArray, List.set_cons_zero, List.set_cons_succ])
              have HD9 : Hid (Blk w9 w.heap.size 76 (benchV g gb ⟨d5, false, x.put⟩ A1' A2' c1' c2' Ap cp).toArray) := d9
              have HF9 := Lib.hid (HFIN.out w9 k9)
              clear d9 k9 hS hPan k5 K5 hro5 hX HPC HCC HAP HBE HHB HB8 HRO HKP HOK HDM c2n
              go_wp2
              go_roundw
              case rel => exact ⟨k + 1, d5, e5, A1', A2', c1', c2', by omega, by omega, by go_num, rfl, HST5.out, HO5.out, HD5.out, HD9.out, HF9.out.1, HF9.out.2.1, HF9.out.2.2⟩
              case measure => simp [intOf]; omega
          · have HRS : Hid (res = (⟨dk, decide (ek = 0), []⟩, ek)) := by
              have hbg : begD x.d = (dk, ek) := by
                rcases hst with ⟨h0, h1, h2⟩ | ⟨_, h2⟩
                · have hkn : k - 1 = ns := by
                    have : ¬ k ≤ ns := fun h => hgo ⟨h, h0⟩
                    omega
                  rw [hkn] at h2
                  rw [HBG.out, if_pos h1, h2, h0]
                · exact h2
              show _ = _
              rw [HBD3.out, hbg]
            have gf := Blk.frozen hb 12
            have gf2 := Blk.frozen hb 13
            have hgl := Blk.lt hb
            have hgc : wr.cell? ⟨w.heap.size, 12, none⟩ = some (.bool false) := hb.cell 12
            have hgc2 : wr.cell? ⟨w.heap.size, 13, none⟩ = some (.slice Ap x.put.length cp) := hb.cell 13
            have HFN : Hid (∀ (o : Bool) w2, Keep [w.heap.size + 1] ((wr.setCell ⟨w.heap.size, 12, none⟩ (.bool o)).setCell ⟨w.heap.size, 13, none⟩ (.slice none 0 0)) w2 → ROwn base F w2 A1k A2k c1k c2k dk ∧ Keep [] w w2) := fun o w2 k2 => by
              have k1 : Keep [w.heap.size] wr ((wr.setCell ⟨w.heap.size, 12, none⟩ (.bool o)).setCell ⟨w.heap.size, 13, none⟩ (.slice none 0 0)) := (keep_set wr w.heap.size 12 (.bool o)).trans (keep_set _ w.heap.size 13 _) (fun y hy _ => hy)
              have r1 := HRO.out.keepBlk HHB.out (by decide) (by decide) k1
              have b1 := HB8.out.keep k1 (by simp)
              exact ⟨r1.keepBlk b1 (by decide) (by decide) k2, (HKP.out.trans k1 (fun y hy hl => by simp only [List.mem_cons, List.not_mem_nil, or_false] at hy; omega)).trans k2 (fun y hy hl => by simp only [List.mem_cons, List.not_mem_nil, or_false] at hy; omega)⟩
            have HSB : Hid (∀ o : Bool, Blk ((wr.setCell ⟨w.heap.size, 12, none⟩ (.bool o)).setCell ⟨w.heap.size, 13, none⟩ (.slice none 0 0)) w.heap.size 76 (benchV g gb ⟨dk, o, []⟩ A1k A2k c1k c2k none 0).toArray ∧ Blk ((wr.setCell ⟨w.heap.size, 12, none⟩ (.bool o)).setCell ⟨w.heap.size, 13, none⟩ (.slice none 0 0)) (w.heap.size + 1) 76 zeroBen) := fun o => by
              have s1 := Blk.set_ HHB.out 12 (.bool o)
              rw [bench_put_opn] at s1
              have s2 := Blk.set_ s1 13 (.slice none ([] : List Nat).length 0)
              rw [bench_put_put] at s2
              exact ⟨s2, (HB8.out.keep (keep_set wr w.heap.size 12 (.bool o)) (by simp)).keep (keep_set _ w.heap.size 13 _) (by simp)⟩
            have HOFF : Hid (0 < ([] : List Nat).length → Off F (none : Option Addr)) := fun h => by cases h
            clear hst hb hro hb8 hkp hok hdm HBD3
            by_cases hek : ek = 0
            · subst hek
              have HRS2 : Hid (res = (⟨dk, true, []⟩, 0)) := HRS.out
              have hkn : ¬ k ≤ ns := fun h => hgo ⟨h, rfl⟩
              have q1 : decide ((k : Int) ≤ (ns : Int)) = false := decide_eq_false (by omega)
              have q2 : (k ≤ ns) = False := eq_false hkn
              clear hgo
              go_wp2_with (first
                | (refine wpList_load_agg rfl 76 (.tmp 1) rfl rfl (cs := benchV g gb ⟨dk, true, []⟩ A1k A2k c1k c2k none 0) HA.out ?_ ?_; exact (HSB.out true).1.cellsAt)
                | (refine wpList_store_all rfl 76 (.tmp 2) (.tmp 64) rfl rfl rfl (t := 76) (cs := zeroBen) (vs := benchV g gb ⟨dk, true, []⟩ A1k A2k c1k c2k none 0) HA.out.2 ?_ (benchV_one _ _ _ _ _ _ _ _ _) rfl ?_; exact (HSB.out true).2; intro w2 e2 k2))
              refine bodyPost_ret (results_blk_tmp rfl _ rfl rfl e2 HA.out) rfl ?_
              rw [HRS2.out]
              obtain ⟨f1, f2⟩ := HFN.out true w2 k2
              exact ⟨_, _, _, _, _, _, rfl, ⟨f1, Reads.none_, HOFF.out⟩, f2⟩
            · have HRS2 : Hid (res = (⟨dk, false, []⟩, ek)) := by show _ = _; rw [HRS.out, decide_eq_false hek]
              have q3 : (ek == 0) = false := beq_eq_false_iff_ne.2 hek
              have q4 : (ek = 0) = False := eq_false hek
              by_cases hlt : k ≤ ns
              · have q1 : decide ((k : Int) ≤ (ns : Int)) = true := decide_eq_true (by omega)
                have q2 : (k ≤ ns) = True := eq_true hlt
                clear hgo
                go_wp2_with (first
                  | (refine wpList_load_agg rfl 76 (.tmp 1) rfl rfl (cs := benchV g gb ⟨dk, false, []⟩ A1k A2k c1k c2k none 0) HA.out ?_ ?_; exact (HSB.out false).1.cellsAt)
                  | (refine wpList_store_all rfl 76 (.tmp 2) (.tmp 64) rfl rfl rfl (t := 76) (cs := zeroBen) (vs := benchV g gb ⟨dk, false, []⟩ A1k A2k c1k c2k none 0) HA.out.2 ?_ (benchV_one _ _ _ _ _ _ _ _ _) rfl ?_; exact (HSB.out false).2; intro w2 e2 k2))
                refine bodyPost_ret (results_blk_tmp rfl _ rfl rfl e2 HA.out) rfl ?_
                rw [HRS2.out]
                obtain ⟨f1, f2⟩ := HFN.out false w2 k2
                exact ⟨_, _, _, _, _, _, rfl, ⟨f1, Reads.none_, HOFF.out⟩, f2⟩
              · have q1 : decide ((k : Int) ≤ (ns : Int)) = false := decide_eq_false (by omega)
                have q2 : (k ≤ ns) = False := eq_false hlt
                clear hgo
                go_wp2_with (first
                  | (refine wpList_load_agg rfl 76 (.tmp 1) rfl rfl (cs := benchV g gb ⟨dk, false, []⟩ A1k A2k c1k c2k none 0) HA.out ?_ ?_; exact (HSB.out false).1.cellsAt)
                  | (refine wpList_store_all rfl 76 (.tmp 2) (.tmp 64) rfl rfl rfl (t := 76) (cs := zeroBen) (vs := benchV g gb ⟨dk, false, []⟩ A1k A2k c1k c2k none 0) HA.out.2 ?_ (benchV_one _ _ _ _ _ _ _ _ _) rfl ?_; exact (HSB.out false).2; intro w2 e2 k2))
                refine bodyPost_ret (results_blk_tmp rfl _ rfl rfl e2 HA.out) rfl ?_
                rw [HRS2.out]
                obtain ⟨f1, f2⟩ := HFN.out false w2 k2
                exact ⟨_, _, _, _, _, _, rfl, ⟨f1, Reads.none_, HOFF.out⟩, f2⟩
end Go.Proofs.Yteanpgkonhdbpaa
