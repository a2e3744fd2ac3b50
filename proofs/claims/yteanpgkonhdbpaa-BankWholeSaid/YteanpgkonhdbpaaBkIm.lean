/- The document's mark (law08), walked. Condition: the device is one that may be. The document's bank and the program's do the same to a device's words; in plain lists. Condition: the bank is of all sectors, with room for at most 4096 words. The document's image (law08) and two rows of words, walked. Condition: the device is one that may be. -/
import Derived.Test.YteanpgkonhdbpaaBkCm
import Derived.Test.YteanpgkonhdbpaaBkP
import Derived.Test.YteanpgkonhdbpaaFlow
namespace Go.Proofs.Yteanpgkonhdbpaa
open Go.RowKit

/-- What mark asks of the header. -/
def badD (d : Dev) : Prop := wdJ d 0 0 ≠ 4294967295 ∨ (headH (sectL d 1)).valid = false ∨ (headH (sectL d 1)).conf = true ∨ ((d.ns : Int) - 2) * (d.nw : Int) < ((headH (sectL d 1)).long : Int)
instance (d : Dev) : Decidable (badD d) := by unfold badD; infer_instance
def markD (x : BenS) (tr : Bool) : BenS × Int :=
  if x.d.on = false then (x, 63)
  else if badD x.d then (x, 80)
  else if tr = true then
    match nextT (sectL x.d 1) 3 0 with
    | none => (x, 80)
    | some i => ({ x with d := (progS x.d 1 (i : Int) 0).1 }, (progS x.d 1 (i : Int) 0).2)
  else ({ x with d := (progsD x.d 1 8 [1668247142, cplJ 1668247142]).1 }, if (progsD x.d 1 8 [1668247142, cplJ 1668247142]).2 = 61 then 80 else (progsD x.d 1 8 [1668247142, cplJ 1668247142]).2)

theorem own_slice13 {B e c : Nat} {xs : List Value} {W : World} {A : Option Addr} (h : W.ownsRow B e 1 (.slice A 13 c) 13 xs) : ∃ q, A = some ⟨q, 0, none⟩ ∧ 13 ≤ c := by
  rcases h.2 with ⟨_, h0⟩ | ⟨q, cap, cur, hv, _, hg, hle, _⟩
  · cases h0
  · injection hv with e1 _ e3
    subst e1
    subst e3
    exact ⟨q, rfl, hle⟩
theorem reads_mid {w : World} {q n : Nat} {l : List Nat} (h : Reads w 1 (some ⟨q, 0, none⟩) n (wordsV l)) (k m : Nat) (hk : k + m ≤ n) (h0 : 0 < n := by decide) : Reads w 1 (some ⟨q, k, none⟩) m (wordsV ((l.drop k).take m)) := by
  have hl : l.length = n := by have := h.1; simpa [wordsV] using this
  obtain ⟨b, o, e, hb, hc⟩ := h.addr (by omega)
  injection e with e
  injection e with e1 e2
  subst e1
  subst e2
  refine ⟨by simp [wordsV]; omega, fun _ => ⟨_, _, rfl, hb, fun j u hj => ?_⟩⟩
  have hj2 : j < m := by
    have := (List.getElem?_eq_some_iff.1 hj).1
    simp [wordsV] at this
    omega
  unfold wordsV at hj
  rw [List.getElem?_map, List.getElem?_take_of_lt hj2, List.getElem?_drop] at hj
  have := hc (k + j) u (by unfold wordsV; rw [List.getElem?_map]; exact hj)
  rw [Nat.zero_add] at this
  exact this

set_option maxRecDepth 100000 in
set_option maxHeartbeats 8000000 in
theorem mark_any08 (base : Nat) (F : List Nat) (g gb : Nat) (x : BenS) (tr : Bool) (A1 A2 : Option Addr) (c1 c2 : Nat) (Ap : Option Addr) (cp : Nat) (w : World) (hx : BenAt base F w A1 A2 c1 c2 Ap x) (ho : x.d.Ok) (h3 : 3 ≤ x.d.ns) (hF : ∀ y ∈ F, y < w.heap.size) (hbase : base ≤ w.heap.size) :
    Calls Try.prog 81 #[.agg (benchV g gb x A1 A2 c1 c2 Ap cp).toArray, .bool tr] w (RetBen base F w g gb (markD x tr).1 (markD x tr).2) := by
  obtain ⟨b0, b1, k1, hsz⟩ := boxB_facts w (benchV g gb x A1 A2 c1 c2 Ap cp)
  have HW : Hid ((w.alloc (.cells (benchV g gb x A1 A2 c1 c2 Ap cp).toArray 76)).alloc (.cells zeroBen 76) = boxB w (benchV g gb x A1 A2 c1 c2 Ap cp)) := show _ = _ from rfl
  generalize boxB w (benchV g gb x A1 A2 c1 c2 Ap cp) = W at *
  have HA : Hid (AggOf Try.prog 76 14) := agg_ben
  have HAR : Hid (AggOf Try.prog 57 10) := agg_ref
  have HAS : Hid (AggOf Try.prog 145 6) := ⟨by kernel_rfl, by kernel_rfl⟩
  have HMD : Hid (markD x tr = if x.d.on = false then (x, 63) else if badD x.d then (x, 80) else if tr = true then
      (match nextT (sectL x.d 1) 3 0 with
      | none => (x, 80)
      | some i => ({ x with d := (progS x.d 1 (i : Int) 0).1 }, (progS x.d 1 (i : Int) 0).2))
    else ({ x with d := (progsD x.d 1 8 [1668247142, cplJ 1668247142]).1 }, if (progsD x.d 1 8 [1668247142, cplJ 1668247142]).2 = 61 then 80 else (progsD x.d 1 8 [1668247142, cplJ 1668247142]).2)) := show _ = _ from rfl
  have HBAD : Hid (badD x.d ↔ (wdJ x.d 0 0 ≠ 4294967295 ∨ (headH (sectL x.d 1)).valid = false ∨ (headH (sectL x.d 1)).conf = true ∨ ((x.d.ns : Int) - 2) * (x.d.nw : Int) < ((headH (sectL x.d 1)).long : Int))) := show _ ↔ _ from Iff.rfl
  generalize markD x tr = res at *
  have HB0 := Lib.hid b0
  have HB1 := Lib.hid b1
  have HK1 := Lib.hid k1
  obtain ⟨_, _, bc2, bc3, _, bc5, _, bc7, _, _⟩ := bench_cells g gb x A1 A2 c1 c2 Ap cp
  have d7 := (b0.cell 7).trans bc7
  have hns := ho.ns2
  have hnw1 := ho.nw1
  have hnw := ho.nw2
  have hin := in_bits ho (s := 0) (q := 0) (by omega) (by omega)
  obtain ⟨qa, rfl, hc1, _, hqa⟩ := rown_slice hx.rows (by omega)
  have hcw : w.cell? ⟨qa, 0, none⟩ = some (.int .u32 ((wdJ x.d 0 0 : Nat) : Int)) := by
    obtain ⟨b, o, e, hb, hc⟩ := hx.rows.at_.bits.addr (by omega)
    injection e with e
    injection e with e1 e2
    subst e1
    subst e2
    have := hc 0 (.int .u32 ((wdJ x.d 0 0 : Nat) : Int)) (by
      unfold wordsV wdJ
      have h0 : 0 * x.d.nw + 0 = 0 := by omega
      rw [h0] at hin ⊢
      rw [List.getElem?_map, List.getElem?_eq_getElem hin, List.getD_eq_getElem?_getD, List.getElem?_eq_getElem hin]
      rfl)
    exact this
  have hbl : 0 < x.d.bits.length := by omega
  have HC : Hid (∀ W', Keep [] W W' → W'.cell? ⟨w.heap.size, 2, none⟩ = some (.int .i64 (x.d.ns : Int)) ∧ W'.cell? ⟨w.heap.size, 3, none⟩ = some (.int .i64 (x.d.nw : Int)) ∧ W'.cell? ⟨w.heap.size, 5, none⟩ = some (.slice (some ⟨qa, 0, none⟩) x.d.bits.length c1) ∧ W'.cell? ⟨qa, 0, none⟩ = some (.int .u32 ((wdJ x.d 0 0 : Nat) : Int))) := fun W' kk => by
    have h := b0.keep0 kk
    exact ⟨(h.cell 2).trans bc2, (h.cell 3).trans bc3, (h.cell 5).trans bc5, ((k1.then kk).cell (p := ⟨qa, 0, none⟩) hqa (by simp)).trans hcw⟩
  have HX := Lib.hid hx
  have HO := Lib.hid ho
  have HFF := Lib.hid hF
  clear b0 b1 k1 hx ho hF bc2 bc3 bc5 bc7 hin hcw
  go_enter Try.func81, Try.ntmps81
  cases hon : x.d.on with
  | false =>
    have HRS : Hid (res = (x, 63)) := by show _ = _; rw [HMD.out, if_pos hon]
    rw [hon] at d7
    have d7' : W.cell? ⟨w.heap.size, 7, none⟩ = some (.bool true) := d7
    clear d7
    go_upto_region 1 with (rw [HW.out])
    clear HW
    go_wp2_with (first
      | (refine wpList_load_agg rfl 76 (.tmp 2) rfl rfl (cs := benchV g gb x (some ⟨qa, 0, none⟩) A2 c1 c2 Ap cp) HA.out ?_ ?_; exact HB0.out.cellsAt)
      | (refine wpList_store_all rfl 76 (.tmp 4) (.tmp 12) rfl rfl rfl (t := 76) (cs := zeroBen) (vs := benchV g gb x (some ⟨qa, 0, none⟩) A2 c1 c2 Ap cp) HA.out.2 ?_ (benchV_one _ _ _ _ _ _ _ _ _) rfl ?_; exact HB1.out; intro w2 e2 k2))
    refine bodyPost_ret (results_blk_tmp rfl _ rfl rfl e2 HA.out) rfl ?_
    rw [HRS.out]
    have kk : Keep [] w w2 := HK1.out.trans k2 (fun y hy hl => by simp only [List.mem_cons, List.not_mem_nil, or_false] at hy; omega)
    exact ⟨_, _, _, _, _, _, rfl, HX.out.keep0 kk, kk⟩
  | true =>
    rw [hon] at d7
    have d7' : W.cell? ⟨w.heap.size, 7, none⟩ = some (.bool false) := d7
    clear d7
    have HMD2 := HMD.out
    rw [if_neg (by rw [hon]; decide)] at HMD2
    replace HMD := Lib.hid HMD2
    clear HMD2
    have HWD : Hid (∀ W', Keep [] W W' → Calls Try.prog 40 #[.agg (refV x.d (some ⟨qa, 0, none⟩) A2 c1 c2).toArray, .int .i64 1] W' fun e w' => ∃ A c, e = .returned (.slice A x.d.nw c) ∧ Reads w' 1 A x.d.nw (wordsV (sectL x.d 1)) ∧ Keep [] W' w') := fun W' kk =>
      words_any08 base F (some ⟨qa, 0, none⟩) A2 c1 c2 x.d 1 W' (HX.out.rows.keep0 (HK1.out.then kk)) HO.out (by omega)
    have HSL : Hid ((sectL x.d 1).length = x.d.nw) := sectL_len x.d HO.out 1 (by omega)
    have HS32 := Lib.hid (sectL_lt HO.out 1)
    have HRD : Hid (∀ W' A c, Reads W' 1 A x.d.nw (wordsV (sectL x.d 1)) → Calls Try.prog 86 #[.slice A x.d.nw c] W' fun e w' => e = .returned (.agg (hdCells (headH (sectL x.d 1))).toArray) ∧ Keep [] W' w') := fun W' A c h => rhread_any A x.d.nw c (sectL x.d 1) W' HSL.out HS32.out h
    have hlg := headH_long HS32.out
    go_upto_region 1 with (rw [HW.out])
    clear HW
    go_wp2_with (refine stop_load 57 (.tmp 13) rfl ?_)
    constructor
    refine wpList_load_agg rfl 57 (.tmp 13) rfl rfl (f := 2) (cs := refV x.d (some ⟨qa, 0, none⟩) A2 c1 c2) HAR.out (bench_ref HB0.out) ?_
    go_wp2_with fail
    refine (HWD.out W (Keep.refl _ _)).mono ?_
    rintro e w3 ⟨As, cs, rfl, hrs, k3⟩
    go_wp2_with fail
    refine (HRD.out w3 As cs hrs).mono ?_
    rintro e w4 ⟨rfl, k4⟩
    generalize hhh : headH (sectL x.d 1) = h at *
    go_wp2_with (refine stop_store 145 (.tmp 6) (.tmp 16) rfl ?_)
    constructor
    refine wpList_store_all rfl 145 (.tmp 6) (.tmp 16) rfl rfl rfl (t := 145) (cs := #[.int .u32 0, .int .u32 0, .int .u32 0, .bool false, .bool false, .int .i64 0]) (vs := hdCells h) HAS.out.2 (Blk.new _ _ _) (by simp [Value.oneCell']) rfl ?_
    intro w5 e5 k5
    have K5 : Keep [] W w5 := (k3.then k4).then (((Keep.refl [] w4).alloc _).trans k5 (fun y hy hl => by simp only [List.mem_cons, List.not_mem_nil, or_false] at hy; omega))
    have s1 := e5.cell 1
    have s3 := e5.cell 3
    have s4 := e5.cell 4
    have f1 : w5.cell? ⟨w4.heap.size, 1, none⟩ = some (.int .u32 (h.long : Int)) := s1
    have f3 : w5.cell? ⟨w4.heap.size, 3, none⟩ = some (.bool h.valid) := s3
    have f4 : w5.cell? ⟨w4.heap.size, 4, none⟩ = some (.bool h.conf) := s4
    obtain ⟨g2, g3, g5, g0⟩ := HC.out w5 K5
    have HK5 := Lib.hid K5
    have HB5 := Lib.hid (HB0.out.keep0 K5)
    have HB15 := Lib.hid (HB1.out.keep0 K5)
    clear s1 s3 s4 e5 k5 k3 k4 K5 hrs d7' HC HB0 HB1
    generalize w4.heap.size = B6 at *
    have hmk : (((x.d.ns - 2) * x.d.nw : Nat) : Int) = ((x.d.ns : Int) - 2) * (x.d.nw : Int) := by rw [Int.natCast_mul, Int.ofNat_sub (by omega)]; rfl
    have hmb : (x.d.ns - 2) * x.d.nw ≤ 65536 := Nat.le_trans (Nat.mul_le_mul (show x.d.ns - 2 ≤ 64 by omega) hnw) (by decide)
    have HBAD2 := HBAD.out
    rw [← hmk] at HBAD2
    have hw1 : IntKind.i64.wrap ((x.d.ns : Int) - 2) = (x.d.ns : Int) - 2 := IntWalk.i64_in _ (by omega)
    have hw2 : IntKind.i64.wrap (((x.d.ns : Int) - 2) * (x.d.nw : Int)) = (((x.d.ns - 2) * x.d.nw : Nat) : Int) := by rw [← hmk]; exact IntWalk.i64_in _ (by omega)
    have hw3 : IntKind.i64.wrap (h.long : Int) = (h.long : Int) := IntWalk.i64_in _ (by omega)
    generalize (x.d.ns - 2) * x.d.nw = rm at *
    generalize wdJ x.d 0 0 = x0 at *
    replace HBAD := Lib.hid HBAD2
    have hbi : (0 : Int) < (x.d.bits.length : Int) := by omega
    clear hmk HBAD2
    have hz5 : w.heap.size + 1 < w5.heap.size := HB15.out.lt
    by_cases hx0 : x0 = 4294967295
    case neg =>
      have HRS : Hid (res = (x, 80)) := by show _ = _; rw [HMD.out, if_pos (HBAD.out.2 (.inl hx0))]
      have q0 : ((x0 : Int) == 4294967295) = false := beq_eq_false_iff_ne.2 (by omega)
      have q1 : (x0 = 4294967295) = False := eq_false hx0
      have q2 : ((x0 : Int) = 4294967295) = False := eq_false (by omega)
      have q3 : ((x0 : Int) != 4294967295) = true := bne_iff_ne.2 (by omega)
      clear hx0 HMD HBAD
      go_upto_region 5 with fail
      go_wp2_with (refine stop_load 76 (.tmp 2) rfl ?_)
      constructor
      refine wpList_load_agg rfl 76 (.tmp 2) rfl rfl (cs := benchV g gb x (some ⟨qa, 0, none⟩) A2 c1 c2 Ap cp) HA.out HB5.out.cellsAt ?_
      go_wp2_with (refine wpList_store_all rfl 76 (.tmp 4) (.tmp 46) rfl rfl rfl (t := 76) (cs := zeroBen) (vs := benchV g gb x (some ⟨qa, 0, none⟩) A2 c1 c2 Ap cp) HA.out.2 ?_ (benchV_one _ _ _ _ _ _ _ _ _) rfl ?_; exact HB15.out; intro w2 e2 k2)
      refine bodyPost_ret (results_blk_tmp rfl _ rfl rfl e2 HA.out) rfl ?_
      rw [HRS.out]
      have kk : Keep [] w w2 := (HK1.out.then HK5.out).trans k2 (fun y hy hl => by simp only [List.mem_cons, List.not_mem_nil, or_false] at hy; omega)
      exact ⟨_, _, _, _, _, _, rfl, HX.out.keep0 kk, kk⟩
    case pos =>
      rw [hx0] at g0 HBAD
      have g0' : w5.cell? ⟨qa, 0, none⟩ = some (.int .u32 4294967295) := g0
      clear g0 hx0
      cases hv : h.valid with
      | false =>
        have HRS : Hid (res = (x, 80)) := by show _ = _; rw [HMD.out, if_pos (HBAD.out.2 (.inr (.inl hv)))]
        rw [hv] at f3
        clear HMD HBAD
        go_upto_region 5 with fail
        go_wp2_with (refine stop_load 76 (.tmp 2) rfl ?_)
        constructor
        refine wpList_load_agg rfl 76 (.tmp 2) rfl rfl (cs := benchV g gb x (some ⟨qa, 0, none⟩) A2 c1 c2 Ap cp) HA.out HB5.out.cellsAt ?_
        go_wp2_with (refine wpList_store_all rfl 76 (.tmp 4) (.tmp 46) rfl rfl rfl (t := 76) (cs := zeroBen) (vs := benchV g gb x (some ⟨qa, 0, none⟩) A2 c1 c2 Ap cp) HA.out.2 ?_ (benchV_one _ _ _ _ _ _ _ _ _) rfl ?_; exact HB15.out; intro w2 e2 k2)
        refine bodyPost_ret (results_blk_tmp rfl _ rfl rfl e2 HA.out) rfl ?_
        rw [HRS.out]
        have kk : Keep [] w w2 := (HK1.out.then HK5.out).trans k2 (fun y hy hl => by simp only [List.mem_cons, List.not_mem_nil, or_false] at hy; omega)
        exact ⟨_, _, _, _, _, _, rfl, HX.out.keep0 kk, kk⟩
      | true =>
        rw [hv] at f3
        cases hc : h.conf with
        | true =>
          have HRS : Hid (res = (x, 80)) := by show _ = _; rw [HMD.out, if_pos (HBAD.out.2 (.inr (.inr (.inl hc))))]
          rw [hc] at f4
          clear HMD HBAD
          go_upto_region 5 with fail
          go_wp2_with (refine stop_load 76 (.tmp 2) rfl ?_)
          constructor
          refine wpList_load_agg rfl 76 (.tmp 2) rfl rfl (cs := benchV g gb x (some ⟨qa, 0, none⟩) A2 c1 c2 Ap cp) HA.out HB5.out.cellsAt ?_
          go_wp2_with (refine wpList_store_all rfl 76 (.tmp 4) (.tmp 46) rfl rfl rfl (t := 76) (cs := zeroBen) (vs := benchV g gb x (some ⟨qa, 0, none⟩) A2 c1 c2 Ap cp) HA.out.2 ?_ (benchV_one _ _ _ _ _ _ _ _ _) rfl ?_; exact HB15.out; intro w2 e2 k2)
          refine bodyPost_ret (results_blk_tmp rfl _ rfl rfl e2 HA.out) rfl ?_
          rw [HRS.out]
          have kk : Keep [] w w2 := (HK1.out.then HK5.out).trans k2 (fun y hy hl => by simp only [List.mem_cons, List.not_mem_nil, or_false] at hy; omega)
          exact ⟨_, _, _, _, _, _, rfl, HX.out.keep0 kk, kk⟩
        | false =>
          rw [hc] at f4
          by_cases hlo : (rm : Int) < (h.long : Int)
          · have HRS : Hid (res = (x, 80)) := by show _ = _; rw [HMD.out, if_pos (HBAD.out.2 (.inr (.inr (.inr hlo))))]
            have q0 : decide ((rm : Int) < (h.long : Int)) = true := decide_eq_true hlo
            have q1 : (rm < h.long) = True := eq_true (by omega)
            clear HMD HBAD hlo
            go_upto_region 5 with fail
            go_wp2_with (refine stop_load 76 (.tmp 2) rfl ?_)
            constructor
            refine wpList_load_agg rfl 76 (.tmp 2) rfl rfl (cs := benchV g gb x (some ⟨qa, 0, none⟩) A2 c1 c2 Ap cp) HA.out HB5.out.cellsAt ?_
            go_wp2_with (refine wpList_store_all rfl 76 (.tmp 4) (.tmp 46) rfl rfl rfl (t := 76) (cs := zeroBen) (vs := benchV g gb x (some ⟨qa, 0, none⟩) A2 c1 c2 Ap cp) HA.out.2 ?_ (benchV_one _ _ _ _ _ _ _ _ _) rfl ?_; exact HB15.out; intro w2 e2 k2)
            refine bodyPost_ret (results_blk_tmp rfl _ rfl rfl e2 HA.out) rfl ?_
            rw [HRS.out]
            have kk : Keep [] w w2 := (HK1.out.then HK5.out).trans k2 (fun y hy hl => by simp only [List.mem_cons, List.not_mem_nil, or_false] at hy; omega)
            exact ⟨_, _, _, _, _, _, rfl, HX.out.keep0 kk, kk⟩
          · have q0 : decide ((rm : Int) < (h.long : Int)) = false := decide_eq_false hlo
            have q1 : (rm < h.long) = False := eq_false (by omega)
            have HMD2 := HMD.out
            rw [if_neg (fun hb => by rcases HBAD.out.1 hb with h1 | h1 | h1 | h1; exact h1 rfl; rw [hv] at h1; cases h1; rw [hc] at h1; cases h1; exact hlo h1)] at HMD2
            replace HMD := Lib.hid HMD2
            clear HMD2 HBAD hlo
            cases tr with
            | true =>
              have HMT : Hid (res = match nextT (sectL x.d 1) 3 0 with | none => (x, 80) | some i => ({ x with d := (progS x.d 1 (i : Int) 0).1 }, (progS x.d 1 (i : Int) 0).2)) := HMD.out
              have HAT : Hid (∀ W' A c (i : Nat), i ≤ 100 → Reads W' 1 A x.d.nw (wordsV (sectL x.d 1)) → Calls Try.prog 123 #[.slice A x.d.nw c, .int .i64 (i : Int)] W' fun e w' => e = .returned (.int .u32 ((atH (sectL x.d 1) i : Nat) : Int)) ∧ W' = w') := fun W' A c i hi h => rat_any7 A x.d.nw c (sectL x.d 1) i W' HSL.out h hi
              have HPG : Hid (∀ W' (i : Nat), Keep [] w5 W' → Calls Try.prog 119 #[.agg (refV x.d (some ⟨qa, 0, none⟩) A2 c1 c2).toArray, .int .i64 1, .int .i64 (i : Int), .int .u32 0] W' (RetRef base F W' (progS x.d 1 (i : Int) 0).1 (progS x.d 1 (i : Int) 0).2)) := fun W' i kk => by
                have hz := kk.size
                exact rprog_any base F (some ⟨qa, 0, none⟩) A2 c1 c2 x.d W' (HX.out.rows.keep0 (HK1.out.then (HK5.out.then kk))) HO.out (fun y hy => by have := HFF.out y hy; omega) (by omega) 1 (i : Int) 0 (by decide)
              clear HMD HRD HS32
              generalize sectL x.d 1 = sl at *
              go_wp2_with fail
              clear g2 g3 g5 g0' f1 f3 f4 hlg
              go_loopw [7, 8] (fun v7 v8 wr => ∃ i : Nat, v7 = .int .i64 80 ∧ 10 ≤ i ∧ i ≤ 13 ∧ v8 = .int .i64 (i : Int) ∧ nextT sl (13 - i) (i - 10) = nextT sl 3 0 ∧ Keep [] w5 wr) (fun _ v8 _ => 13 - (intOf v8).toNat)
              case atStart => exact ⟨10, rfl, Nat.le_refl _, by omega, rfl, rfl, Keep.refl _ _⟩
              case round =>
                obtain ⟨i, rfl, hi0, hi, rfl, hnx, hkp⟩ := hrel
                have HNX := Lib.hid hnx
                have HKP := Lib.hid hkp
                have HBr := Lib.hid (HB5.out.keep0 hkp)
                have HB1r := Lib.hid (HB15.out.keep0 hkp)
                have hzr := hkp.size
                clear hnx hkp
                by_cases hlt : i < 13
                · have r0 : decide ((i : Int) < 13) = true := decide_eq_true (by omega)
                  have r1 := eq_true hlt
                  go_upto_region 10 with fail
                  go_wp2_with (refine stop_load 57 (.tmp 54) rfl ?_)
                  constructor
                  refine wpList_load_agg rfl 57 (.tmp 54) rfl rfl (f := 2) (cs := refV x.d (some ⟨qa, 0, none⟩) A2 c1 c2) HAR.out (bench_ref HBr.out) ?_
                  go_wp2_with fail
                  refine (HWD.out wr (HK5.out.then HKP.out)).mono ?_
                  rintro e w6 ⟨Au, cu, rfl, hru, k6⟩
                  go_wp2_with fail
                  refine (HAT.out w6 Au cu i (by omega) hru).mono ?_
                  rintro e w7 ⟨rfl, rfl⟩
                  have HK6 := Lib.hid (HKP.out.then k6)
                  have HB6 := Lib.hid (HBr.out.keep0 k6)
                  have HB16 := Lib.hid (HB1r.out.keep0 k6)
                  clear hru k6
                  have HSTEP : Hid (nextT sl (13 - i) (i - 10) = if atH sl i = 4294967295 then some i else nextT sl (13 - (i + 1)) (i + 1 - 10)) := by
                    show _ = _
                    rw [show 13 - i = (13 - (i + 1)) + 1 by omega, nextT, show 10 + (i - 10) = i by omega, show i - 10 + 1 = i + 1 - 10 by omega]
                  generalize hat : atH sl i = y at *
                  clear hat
                  by_cases hy : y = 4294967295
                  · have HRS : Hid (res = ({ x with d := (progS x.d 1 (i : Int) 0).1 }, (progS x.d 1 (i : Int) 0).2)) := by show _ = _; rw [HMT.out, ← HNX.out, HSTEP.out, if_pos hy]
                    subst hy
                    have HPC := Lib.hid (HPG.out w6 i HK6.out)
                    obtain ⟨d1, e1, hp1⟩ : ∃ d1 e1, progS x.d 1 (i : Int) 0 = (d1, e1) := ⟨_, _, rfl⟩
                    rw [hp1] at HPC HRS
                    dsimp only at HPC HRS
                    clear hp1 HPG HMT HSTEP HNX HAT HWD
                    go_upto_region 11 with fail
                    go_wp2_with (refine stop_load 57 (.tmp 61) rfl ?_)
                    constructor
                    refine wpList_load_agg rfl 57 (.tmp 61) rfl rfl (f := 2) (cs := refV x.d (some ⟨qa, 0, none⟩) A2 c1 c2) HAR.out (bench_ref HB6.out) ?_
                    go_wp2_with fail
                    refine HPC.out.mono ?_
                    rintro e w7 ⟨A1', A2', c1', c2', rfl, hro7, k7⟩
                    have HB7 := Lib.hid (HB6.out.keep0 k7)
                    have HB17 := Lib.hid (HB16.out.keep0 k7)
                    have HRO7 := Lib.hid hro7
                    have HK7 := Lib.hid ((HK1.out.then HK5.out).then (HK6.out.then k7))
                    clear hro7 k7 HPC
                    go_wp2_with (refine stop_store 57 (.tmp 67) (.tmp 65) rfl ?_)
                    constructor
                    refine wpList_store_agg rfl 57 (.tmp 67) (.tmp 65) rfl rfl rfl (f := 2) (vs := refV d1 A1' A2' c1' c2') HAR.out.2 HB7.out (refV_one _ _ _ _ _) (by show 2 + 10 ≤ 14; decide) ?_
                    intro w9 d9 k9
                    rw [bench_put_ref] at d9
                    have HD9 := Lib.hid d9
                    have HRO9 := Lib.hid (HRO7.out.keepBlk HB7.out (by decide) (by decide) k9)
                    have HB19 := Lib.hid (HB17.out.keep k9 (by simp))
                    have HK9 : Hid (Keep [] w w9) := HK7.out.trans k9 (fun y hy hl => by simp only [List.mem_cons, List.not_mem_nil, or_false] at hy; omega)
                    clear d9 k9
                    go_wp2_with (refine stop_load 76 (.tmp 2) rfl ?_)
                    constructor
                    refine wpList_load_agg rfl 76 (.tmp 2) rfl rfl (cs := benchV g gb { x with d := d1 } A1' A2' c1' c2' Ap cp) HA.out HD9.out.cellsAt ?_
                    go_wp2_with (refine wpList_store_all rfl 76 (.tmp 4) (.tmp 68) rfl rfl rfl (t := 76) (cs := zeroBen) (vs := benchV g gb { x with d := d1 } A1' A2' c1' c2' Ap cp) HA.out.2 ?_ (benchV_one _ _ _ _ _ _ _ _ _) rfl ?_; exact HB19.out; intro w2 e2 k2)
                    refine bodyPost_ret (results_blk_tmp rfl _ rfl rfl e2 HA.out) rfl ?_
                    rw [HRS.out]
                    have kk : Keep [] w w2 := HK9.out.trans k2 (fun y hy hl => by simp only [List.mem_cons, List.not_mem_nil, or_false] at hy; omega)
                    exact ⟨_, _, _, _, _, _, rfl, ⟨HRO9.out.keepBlk HB19.out (by decide) (by decide) k2, HX.out.put.keep0 kk, HX.out.off⟩, kk⟩
                  · have HSN : Hid (nextT sl (13 - (i + 1)) (i + 1 - 10) = nextT sl 3 0) := by show _ = _; rw [← HNX.out, HSTEP.out, if_neg hy]
                    have q2 : ((y : Int) == 4294967295) = false := beq_eq_false_iff_ne.2 (by omega)
                    have q3 : (y = 4294967295) = False := eq_false hy
                    have q4 : ((y : Int) = 4294967295) = False := eq_false (by omega)
                    have hwk : IntKind.i64.wrap ((i : Int) + 1) = ((i + 1 : Nat) : Int) := by rw [show (i : Int) + 1 = ((i + 1 : Nat) : Int) by omega]; exact IntWalk.i64_in _ (by omega)
                    clear hy
                    go_wp2
                    go_roundw
                    case rel => exact ⟨i + 1, rfl, by omega, by omega, by go_num, HSN.out, HK6.out⟩
                    case measure => simp [intOf]; omega
                · obtain rfl : i = 13 := by omega
                  have HRS : Hid (res = (x, 80)) := by show _ = _; rw [HMT.out, ← HNX.out]; rfl
                  go_upto_region 14 with fail
                  go_wp2_with (refine stop_load 76 (.tmp 2) rfl ?_)
                  constructor
                  refine wpList_load_agg rfl 76 (.tmp 2) rfl rfl (cs := benchV g gb x (some ⟨qa, 0, none⟩) A2 c1 c2 Ap cp) HA.out HBr.out.cellsAt ?_
                  go_wp2_with (refine wpList_store_all rfl 76 (.tmp 4) (.tmp 71) rfl rfl rfl (t := 76) (cs := zeroBen) (vs := benchV g gb x (some ⟨qa, 0, none⟩) A2 c1 c2 Ap cp) HA.out.2 ?_ (benchV_one _ _ _ _ _ _ _ _ _) rfl ?_; exact HB1r.out; intro w2 e2 k2)
                  refine bodyPost_ret (results_blk_tmp rfl _ rfl rfl e2 HA.out) rfl ?_
                  rw [HRS.out]
                  have kk : Keep [] w w2 := (HK1.out.then (HK5.out.then HKP.out)).trans k2 (fun y hy hl => by simp only [List.mem_cons, List.not_mem_nil, or_false] at hy; omega)
                  exact ⟨_, _, _, _, _, _, rfl, HX.out.keep0 kk, kk⟩
            | false =>
              have HMF : Hid (res = ({ x with d := (progsD x.d 1 8 [1668247142, cplJ 1668247142]).1 }, if (progsD x.d 1 8 [1668247142, cplJ 1668247142]).2 = 61 then 80 else (progsD x.d 1 8 [1668247142, cplJ 1668247142]).2)) := by
                show _ = _
                rw [HMD.out, if_neg (by decide)]
              have HWH : Hid (∀ W', Calls Try.prog 121 #[.int .u32 0, .int .u32 0, .int .u32 0, .bool true, .bool true] W' fun e w' => ∃ A cap, e = .returned (.slice A 13 cap) ∧ w'.ownsRow W'.heap.size 33 1 (.slice A 13 cap) 13 (wordsV (wordsH 0 0 0 true)) ∧ Keep [] W' w') := fun W' => hwords_any 0 0 0 true W' (by decide) (by decide) (by decide)
              have HPG : Hid (∀ W' Aw cw, Keep [] w5 W' → Reads W' 1 Aw 2 (wordsV [1668247142, cplJ 1668247142]) → Calls Try.prog 122 #[.agg (refV x.d (some ⟨qa, 0, none⟩) A2 c1 c2).toArray, .int .i64 1, .int .i64 8, .slice Aw 2 cw] W' (RetRef base F W' (progsD x.d 1 8 [1668247142, cplJ 1668247142]).1 (progsD x.d 1 8 [1668247142, cplJ 1668247142]).2)) := fun W' Aw cw kk hr => by
                have hz := kk.size
                exact program_any08 base F (some ⟨qa, 0, none⟩) A2 c1 c2 x.d 1 8 Aw 2 cw [1668247142, cplJ 1668247142] W' (HX.out.rows.keep0 (HK1.out.then (HK5.out.then kk))) HO.out (fun y hy => by have := HFF.out y hy; omega) (by omega) (by decide) (by decide) rfl (fun y hy => by
                  have h5 := cpl_lt 1668247142
                  simp only [List.mem_cons, List.not_mem_nil, or_false] at hy
                  rcases hy with rfl | rfl
                  · decide
                  · exact h5) hr
              clear HMD HRD HS32 HSL
              obtain ⟨d1, e1, hp1⟩ : ∃ d1 e1, progsD x.d 1 8 [1668247142, cplJ 1668247142] = (d1, e1) := ⟨_, _, rfl⟩
              rw [hp1] at HPG HMF
              dsimp only at HPG HMF
              clear hp1
              have HCC : Hid (∀ W', Keep [] w5 W' → CellsAt W' w.heap.size 2 (refV x.d (some ⟨qa, 0, none⟩) A2 c1 c2)) := fun W' kk => bench_ref (HB5.out.keep0 kk)
              go_wp2_with fail
              clear hlg g2 g3 g5 g0' f1 f3 f4 hv hc q0 q1 hw1 hw2 hw3 hmb hhh HWD
              go_loopw [7, 8] (fun v7 v8 wr => v7 = .int .i64 80 ∧ v8 = .int .i64 10 ∧ Keep [] w5 wr) (fun _ _ _ => 0)
              case atStart => exact ⟨rfl, rfl, Keep.refl _ _⟩
              case round =>
                obtain ⟨rfl, rfl, hkp⟩ := hrel
                have HKP := Lib.hid hkp
                have HBr := Lib.hid (HB5.out.keep0 hkp)
                have HB1r := Lib.hid (HB15.out.keep0 hkp)
                have hzr := hkp.size
                clear hkp
                go_upto_region 15 with fail
                refine ap_begin 9 (Keep [] w5) rfl HKP.out.drew (fun hS hPan => ?_) (fun _ _ d _ _ h => by cases d <;> exact h)
                (refine ap_val (v := ?_) 0 rfl (by kernel_rfl) (by kernel_rfl) (by kernel_rfl) (by kernel_rfl) (by rfl) hPan ?_ hS ?_; rotate_left; (intro w' hSw; go_simp; try with_reducible rfl); simp only [Act.put, List.setIfInBounds_toArray, List.set_cons_zero, List.set_cons_succ])
                refine ap_agg 1 57 (.tmp 74) (refV x.d (some ⟨qa, 0, none⟩) A2 c1 c2) rfl (by kernel_rfl) (by kernel_rfl) (by kernel_rfl) (by kernel_rfl) (by rfl) hPan rfl rfl HAR.out HCC.out hS ?_
                (simp only [Act.put, List.setIfInBounds_toArray, List.set_cons_zero, List.set_cons_succ])
                generalize wr.drew = wd at *
                refine ap_one 2 (by kernel_rfl) ?_
                refine op_call (f := 121) (vs := #[.int .u32 0, .int .u32 0, .int .u32 0, .bool true, .bool true]) 2 rfl (by kernel_rfl) rfl (by simp only [List.map_toArray, List.map_cons, List.map_nil]; rfl) Try.func121 (by kernel_rfl) (by kernel_rfl) (HWH.out wd) ?_
                rintro e w6 ⟨Aw, cw, rfl, how, k6⟩
                obtain ⟨aq, rfl, hcw⟩ := own_slice13 how
                have K6 := hS.then k6
                have HR6 := Lib.hid (reads_mid (Reads.of_own how) 8 2 (by decide))
                have hc10 : (10 : Int) ≤ (cw : Int) := by omega
                have hc8 : (cw = 8) = False := eq_false (by omega)
                refine ⟨_, rfl, fun _ => K6, ?_⟩
                (simp only [Act.put, List.setIfInBounds_toArray, List.set_cons_zero, List.set_cons_succ])
                replace hS := K6
                refine ap_val (v := .slice (some ⟨aq, 8, none⟩) 2 (cw - 8)) 3 rfl (by kernel_rfl) (by kernel_rfl) (by kernel_rfl) (by kernel_rfl) (by rfl) hPan ?_ hS ?_
                · intro w' hSw
                  go_simp
                  done
                (simp only [Act.put, List.setIfInBounds_toArray, List.set_cons_zero, List.set_cons_succ])
                refine ap_one 4 (by kernel_rfl) ?_
                refine op_call (f := 122) (vs := #[.agg (refV x.d (some ⟨qa, 0, none⟩) A2 c1 c2).toArray, .int .i64 1, .int .i64 8, .slice (some ⟨aq, 8, none⟩) 2 (cw - 8)]) 4 rfl (by kernel_rfl) rfl (by simp only [List.map_toArray, List.map_cons, List.map_nil]; rfl) Try.func122 (by kernel_rfl) (by kernel_rfl) (HPG.out w6 _ _ hS HR6.out) ?_
                rintro e w7 ⟨A1', A2', c1', c2', rfl, hro7, k7⟩
                have K7 := hS.then k7
                refine ⟨_, rfl, fun _ => K7, ?_⟩
                (simp only [Act.put, List.setIfInBounds_toArray, List.set_cons_zero, List.set_cons_succ])
                have HB7 := Lib.hid (HB5.out.keep0 K7)
                have HB17 := Lib.hid (HB15.out.keep0 K7)
                have HRO7 := Lib.hid hro7
                have HK7 := Lib.hid ((HK1.out.then HK5.out).then K7)
                have HFIN : Hid (∀ w9 w2, Keep [w.heap.size] w7 w9 → Keep [w.heap.size + 1] w9 w2 → BenAt base F w2 A1' A2' c1' c2' Ap { x with d := d1 } ∧ Keep [] w w2) := fun w9 w2 k9 k2 => by
                  have r1 := HRO7.out.keepBlk HB7.out (by decide) (by decide) k9
                  have b1 := HB17.out.keep k9 (by simp)
                  have kk : Keep [] w w2 := (HK7.out.trans k9 (fun y hy hl => by simp only [List.mem_cons, List.not_mem_nil, or_false] at hy; omega)).trans k2 (fun y hy hl => by simp only [List.mem_cons, List.not_mem_nil, or_false] at hy; omega)
                  exact ⟨⟨r1.keepBlk b1 (by decide) (by decide) k2, HX.out.put.keep0 kk, HX.out.off⟩, kk⟩
                refine ap_one 5 (by kernel_rfl) ?_
                refine op_run (v := (.tuple #[.agg (refV d1 A1' A2' c1' c2').toArray, .int .i64 e1])) (w' := w7) 5 rfl (by kernel_rfl) (by go_simp) ?_
                refine ⟨fun _ => K7, ?_⟩
                (simp only [Act.put, List.setIfInBounds_toArray, List.set_cons_zero, List.set_cons_succ])
                replace hS := K7
                (refine ap_val (v := ?_) 6 rfl (by kernel_rfl) (by kernel_rfl) (by kernel_rfl) (by kernel_rfl) (by rfl) hPan ?_ hS ?_; rotate_left; (intro w' hSw; go_simp; try with_reducible rfl); simp only [Act.put, List.setIfInBounds_toArray, List.set_cons_zero, List.set_cons_succ])
                (refine ap_val (v := ?_) 8 rfl (by kernel_rfl) (by kernel_rfl) (by kernel_rfl) (by kernel_rfl) (by rfl) hPan ?_ hS ?_; rotate_left; (intro w' hSw; go_simp; try with_reducible rfl); simp only [Act.put, List.setIfInBounds_toArray, List.set_cons_zero, List.set_cons_succ])
                refine ap_twoJ 7 9 (by kernel_rfl) ?x1 ?y1
                case x1 =>
                  refine op_run (v := (.int .i64 e1)) (w' := w7) 7 rfl (by kernel_rfl) (by go_simp) ?_
                  refine ⟨fun _ => K7, ?_⟩
                  (simp only [Act.put, List.setIfInBounds_toArray, List.set_cons_zero, List.set_cons_succ])
                  refine ap_one 9 (by kernel_rfl) ?_
                  refine op_store_part (f := 2) (vs := refV d1 A1' A2' c1' c2') 9 rfl (by kernel_rfl) rfl rfl rfl HAR.out.2 HB7.out (refV_one _ _ _ _ _) (by show 2 + 10 ≤ 14; decide) ?_
                  intro w9 d9 k9
                  rw [bench_put_ref] at d9
                  refine ⟨fun h => (by cases h), ?_⟩
                  (simp only [Act.put, List.setIfInBounds_toArray, List.set_cons_zero, List.set_cons_succ])
                  refine ap_one 10 (by kernel_rfl) ?_
                  refine op_run (v := (.int .i64 e1)) (w' := w9) 10 rfl (by kernel_rfl) (by go_simp) ?_
                  refine ⟨fun h => (by cases h), ap_done (by kernel_rfl) ?_ _⟩
                  (simp only [Act.put, List.setIfInBounds_toArray, List.set_cons_zero, List.set_cons_succ])
                  have HD9 : Hid (Blk w9 w.heap.size 76 (benchV g gb { x with d := d1 } A1' A2' c1' c2' Ap cp).toArray) := d9
                  have HB19 := Lib.hid (HB17.out.keep k9 (by simp))
                  have HK9 := Lib.hid k9
                  clear d9 k9 hS hPan k7 K7 K6 k6 how hro7 HPG HCC HWH HR6 hc10 hcw hc8
                  by_cases h61 : e1 = 61
                  · have HRS : Hid (res = ({ x with d := d1 }, 80)) := by show _ = _; rw [HMF.out, if_pos h61]
                    subst h61
                    clear HMF
                    go_upto_region 18 with fail
                    go_wp2_with (refine stop_load 76 (.tmp 2) rfl ?_)
                    constructor
                    refine wpList_load_agg rfl 76 (.tmp 2) rfl rfl (cs := benchV g gb { x with d := d1 } A1' A2' c1' c2' Ap cp) HA.out HD9.out.cellsAt ?_
                    go_wp2_with (refine wpList_store_all rfl 76 (.tmp 4) (.tmp 84) rfl rfl rfl (t := 76) (cs := zeroBen) (vs := benchV g gb { x with d := d1 } A1' A2' c1' c2' Ap cp) HA.out.2 ?_ (benchV_one _ _ _ _ _ _ _ _ _) rfl ?_; exact HB19.out; intro w2 e2 k2)
                    refine bodyPost_ret (results_blk_tmp rfl _ rfl rfl e2 HA.out) rfl ?_
                    rw [HRS.out]
                    obtain ⟨f1, f2⟩ := HFIN.out w9 w2 HK9.out k2
                    exact ⟨_, _, _, _, _, _, rfl, f1, f2⟩
                  · have HRS : Hid (res = ({ x with d := d1 }, e1)) := by show _ = _; rw [HMF.out, if_neg h61]
                    have p0 : (e1 == 61) = false := beq_eq_false_iff_ne.2 h61
                    have p1 : (e1 = 61) = False := eq_false h61
                    clear HMF h61
                    go_upto_region 18 with fail
                    go_wp2_with (refine stop_load 76 (.tmp 2) rfl ?_)
                    constructor
                    refine wpList_load_agg rfl 76 (.tmp 2) rfl rfl (cs := benchV g gb { x with d := d1 } A1' A2' c1' c2' Ap cp) HA.out HD9.out.cellsAt ?_
                    go_wp2_with (refine wpList_store_all rfl 76 (.tmp 4) (.tmp 84) rfl rfl rfl (t := 76) (cs := zeroBen) (vs := benchV g gb { x with d := d1 } A1' A2' c1' c2' Ap cp) HA.out.2 ?_ (benchV_one _ _ _ _ _ _ _ _ _) rfl ?_; exact HB19.out; intro w2 e2 k2)
                    refine bodyPost_ret (results_blk_tmp rfl _ rfl rfl e2 HA.out) rfl ?_
                    rw [HRS.out]
                    obtain ⟨f1, f2⟩ := HFIN.out w9 w2 HK9.out k2
                    exact ⟨_, _, _, _, _, _, rfl, f1, f2⟩
                case y1 =>
                  refine op_store_part (f := 2) (vs := refV d1 A1' A2' c1' c2') 9 rfl (by kernel_rfl) rfl rfl rfl HAR.out.2 HB7.out (refV_one _ _ _ _ _) (by show 2 + 10 ≤ 14; decide) ?_
                  intro w9 d9 k9
                  rw [bench_put_ref] at d9
                  refine ⟨fun h => (by cases h), ?_⟩
                  (simp only [Act.put, List.setIfInBounds_toArray, List.set_cons_zero, List.set_cons_succ])
                  refine ap_one 7 (by kernel_rfl) ?_
                  refine op_run (v := (.int .i64 e1)) (w' := w9) 7 rfl (by kernel_rfl) (by go_simp) ?_
                  refine ⟨fun h => (by cases h), ?_⟩
                  (simp only [Act.put, List.setIfInBounds_toArray, List.set_cons_zero, List.set_cons_succ])
                  refine ap_one 10 (by kernel_rfl) ?_
                  refine op_run (v := (.int .i64 e1)) (w' := w9) 10 rfl (by kernel_rfl) (by go_simp) ?_
                  refine ⟨fun h => (by cases h), ap_done (by kernel_rfl) ?_ _⟩
                  (simp only [Act.put, List.setIfInBounds_toArray, List.set_cons_zero, List.set_cons_succ])
                  have HD9 : Hid (Blk w9 w.heap.size 76 (benchV g gb { x with d := d1 } A1' A2' c1' c2' Ap cp).toArray) := d9
                  have HB19 := Lib.hid (HB17.out.keep k9 (by simp))
                  have HK9 := Lib.hid k9
                  clear d9 k9 hS hPan k7 K7 K6 k6 how hro7 HPG HCC HWH HR6 hc10 hcw hc8
                  by_cases h61 : e1 = 61
                  · have HRS : Hid (res = ({ x with d := d1 }, 80)) := by show _ = _; rw [HMF.out, if_pos h61]
                    subst h61
                    clear HMF
                    go_upto_region 18 with fail
                    go_wp2_with (refine stop_load 76 (.tmp 2) rfl ?_)
                    constructor
                    refine wpList_load_agg rfl 76 (.tmp 2) rfl rfl (cs := benchV g gb { x with d := d1 } A1' A2' c1' c2' Ap cp) HA.out HD9.out.cellsAt ?_
                    go_wp2_with (refine wpList_store_all rfl 76 (.tmp 4) (.tmp 84) rfl rfl rfl (t := 76) (cs := zeroBen) (vs := benchV g gb { x with d := d1 } A1' A2' c1' c2' Ap cp) HA.out.2 ?_ (benchV_one _ _ _ _ _ _ _ _ _) rfl ?_; exact HB19.out; intro w2 e2 k2)
                    refine bodyPost_ret (results_blk_tmp rfl _ rfl rfl e2 HA.out) rfl ?_
                    rw [HRS.out]
                    obtain ⟨f1, f2⟩ := HFIN.out w9 w2 HK9.out k2
                    exact ⟨_, _, _, _, _, _, rfl, f1, f2⟩
                  · have HRS : Hid (res = ({ x with d := d1 }, e1)) := by show _ = _; rw [HMF.out, if_neg h61]
                    have p0 : (e1 == 61) = false := beq_eq_false_iff_ne.2 h61
                    have p1 : (e1 = 61) = False := eq_false h61
                    clear HMF h61
                    go_upto_region 18 with fail
                    go_wp2_with (refine stop_load 76 (.tmp 2) rfl ?_)
                    constructor
                    refine wpList_load_agg rfl 76 (.tmp 2) rfl rfl (cs := benchV g gb { x with d := d1 } A1' A2' c1' c2' Ap cp) HA.out HD9.out.cellsAt ?_
                    go_wp2_with (refine wpList_store_all rfl 76 (.tmp 4) (.tmp 84) rfl rfl rfl (t := 76) (cs := zeroBen) (vs := benchV g gb { x with d := d1 } A1' A2' c1' c2' Ap cp) HA.out.2 ?_ (benchV_one _ _ _ _ _ _ _ _ _) rfl ?_; exact HB19.out; intro w2 e2 k2)
                    refine bodyPost_ret (results_blk_tmp rfl _ rfl rfl e2 HA.out) rfl ?_
                    rw [HRS.out]
                    obtain ⟨f1, f2⟩ := HFIN.out w9 w2 HK9.out k2
                    exact ⟨_, _, _, _, _, _, rfl, f1, f2⟩
end Go.Proofs.Yteanpgkonhdbpaa

namespace Go.Proofs.Yteanpgkonhdbpaa
open Go.RowKit

/-- The program's bank is where the document's is. -/
structure SameB (x : BenS) (b : BkS) : Prop where
  base : b.base = 0
  many : b.many = x.d.ns
  opn : b.opn = x.opn
  pn : x.opn = true → b.pn = x.put.length
  s : x.opn = true → b.s = foldC 4294967295 x.put
  len : x.put.length ≤ (x.d.ns - 2) * x.d.nw
  lt : ∀ y ∈ x.put, y < 4294967296
  pn2 : b.pn ≤ 4096
  s2 : b.s < 4294967296
  m : x.opn = true → b.m = 4 * x.put.length
  m2 : b.m ≤ 16384
structure BigB (d : Dev) : Prop where
  ok : d.Ok
  three : 3 ≤ d.ns
  words : 13 ≤ d.nw
  room : (d.ns - 2) * d.nw ≤ 4096
theorem BigB.dims {d d' : Dev} (h : BigB d) (k : DimsJ d d') (ho : d'.Ok) : BigB d' := ⟨ho, by rw [k.ns]; exact h.three, by rw [k.nw]; exact h.words, by rw [k.ns, k.nw]; exact h.room⟩
theorem SameB.bk {x : BenS} {b : BkS} (h : SameB x b) (hb : BigB x.d) : BkOk x.d b := ⟨by rw [h.many]; exact hb.three, by rw [h.base, h.many]; omega, hb.words⟩
theorem SameB.room {x : BenS} {b : BkS} (h : SameB x b) (hb : BigB x.d) : roomB x.d b = (x.d.ns - 2) * x.d.nw := by
  unfold roomB
  rw [h.many]
  exact Nat.min_eq_left hb.room
theorem room_cast {d : Dev} (h : 3 ≤ d.ns) : (((d.ns - 2) * d.nw : Nat) : Int) = ((d.ns : Int) - 2) * (d.nw : Int) := by rw [Int.natCast_mul, Int.ofNat_sub (by omega)]; rfl
theorem secOrd_ordE {ns : Nat} (h : 1 ≤ ns) : secOrd 0 ns = ordE ns ns := by
  obtain ⟨k, rfl⟩ : ∃ k, ns = k + 1 := ⟨ns - 1, by omega⟩
  rw [ordE_succ, Nat.mod_self]
  unfold secOrd secPre ordE
  rw [Nat.add_sub_cancel]
  congr 1
  refine List.map_congr_left (fun i hi => ?_)
  have := List.mem_range.1 hi
  rw [Nat.mod_eq_of_lt (show i + 1 < k + 1 by omega)]
  omega
theorem worn_same {d : Dev} {b : BkS} (h0 : b.base = 0) (hm : b.many = d.ns) (h1 : 1 ≤ d.ns) : wornB d b = wornA d := by
  unfold wornB wornA
  rw [h0, hm, secOrd_ordE h1]
  rw [Bool.eq_iff_iff, List.any_eq_true, List.any_eq_true]
  have hw : ∀ s, s < d.ns → wornOut d s = decide (d.lim ≤ d.worn.getD s 0) := fun s hs => by
    unfold wornOut wornS
    rw [if_pos ⟨by omega, by omega⟩]
    rfl
  constructor
  · rintro ⟨s, hs, h⟩
    unfold ordE at hs
    obtain ⟨i, hi, rfl⟩ := List.mem_map.1 hs
    have hl : (i + 1) % d.ns < d.ns := Nat.mod_lt _ (by omega)
    exact ⟨_, List.mem_range.2 hl, by rw [hw _ hl] at h; exact h⟩
  · rintro ⟨s, hs, h⟩
    have hs' := List.mem_range.1 hs
    refine ⟨s, ?_, by rw [hw _ hs']; exact h⟩
    unfold ordE
    rw [List.mem_map]
    by_cases h0 : s = 0
    · exact ⟨d.ns - 1, List.mem_range.2 (by omega), by rw [Nat.sub_add_cancel h1, Nat.mod_self, h0]⟩
    · exact ⟨s - 1, List.mem_range.2 (by omega), by rw [Nat.sub_add_cancel (by omega), Nat.mod_eq_of_lt hs']⟩
theorem begD_ok {d : Dev} (h : d.Ok) : (begD d).1.Ok ∧ DimsJ d (begD d).1 := by
  have h1 := progS_ok h 0 0 0 (by decide)
  have h2 := prog_dims d 0 0 0
  have h3 := erasesL_ok (ordE d.ns d.ns) h1
  unfold begD
  split
  · exact ⟨h3.1, h2.trans h3.2⟩
  · exact ⟨h1, h2⟩
/-- Begin. -/
theorem same_begin {x : BenS} {b : BkS} (h : SameB x b) (hb : BigB x.d) : (beginB x.d b).1 = (beginD x).1.d ∧ (beginB x.d b).2.2 = (beginD x).2 ∧ SameB (beginD x).1 (beginB x.d b).2.1 ∧ BigB (beginD x).1.d := by
  obtain ⟨g1, g2⟩ := begD_ok hb.ok
  have hw := worn_same h.base h.many (by have := hb.three; omega)
  have hr : begD x.d = if (progS x.d 0 0 0).2 = 0 then erasesL (progS x.d 0 0 0).1 (secOrd 0 x.d.ns) else progS x.d 0 0 0 := by
    unfold begD
    rw [secOrd_ordE (by have := hb.three; omega)]
  unfold beginB beginD
  rw [hw, h.base, h.many]
  by_cases hon : x.d.on = false
  · rw [if_pos hon, if_pos hon]
    exact ⟨rfl, rfl, ⟨rfl, rfl, rfl, fun e => (by cases e), fun e => (by cases e), h.len, h.lt, h.pn2, h.s2, fun e => (by cases e), h.m2⟩, hb⟩
  · rw [if_neg hon, if_neg hon]
    by_cases hwn : wornA x.d = true
    · rw [if_pos hwn, if_pos hwn]
      exact ⟨rfl, rfl, ⟨rfl, rfl, rfl, fun e => (by cases e), fun e => (by cases e), h.len, h.lt, h.pn2, h.s2, fun e => (by cases e), h.m2⟩, hb⟩
    · rw [if_neg hwn, if_neg hwn]
      by_cases hp : (progS x.d ((0 : Nat) : Int) 0 0).2 = 0
      · have hp' : (progS x.d 0 0 0).2 = 0 := hp
        rw [if_pos hp]
        rw [if_pos hp'] at hr
        rw [hr] at g1 g2 ⊢
        by_cases he : (erasesL (progS x.d ((0 : Nat) : Int) 0 0).1 (secOrd 0 x.d.ns)).2 = 0
        · have he' : (erasesL (progS x.d 0 0 0).1 (secOrd 0 x.d.ns)).2 = 0 := he
          rw [if_pos he]
          refine ⟨rfl, he'.symm, ⟨rfl, ?_, ?_, fun _ => rfl, fun _ => rfl, Nat.zero_le _, fun y hy => (by cases hy), Nat.zero_le _, by show 4294967295 < 4294967296; decide, fun _ => rfl, Nat.zero_le _⟩, hb.dims g2 g1⟩
          · exact g2.ns.symm
          · show true = decide _; rw [he']; rfl
        · have he' : ¬ (erasesL (progS x.d 0 0 0).1 (secOrd 0 x.d.ns)).2 = 0 := he
          rw [if_neg he]
          have hd : decide ((erasesL (progS x.d 0 0 0).1 (secOrd 0 x.d.ns)).2 = 0) = false := decide_eq_false he'
          refine ⟨rfl, rfl, ⟨rfl, ?_, hd.symm, fun e => ?_, fun e => ?_, Nat.zero_le _, fun y hy => (by cases hy), h.pn2, h.s2, fun e => ?_, h.m2⟩, hb.dims g2 g1⟩
          · exact g2.ns.symm
          · exact absurd (hd.symm.trans e) (by decide)
          · exact absurd (hd.symm.trans e) (by decide)
          · exact absurd (hd.symm.trans e) (by decide)
      · have hp' : ¬ (progS x.d 0 0 0).2 = 0 := hp
        rw [if_neg hp]
        rw [if_neg hp'] at hr
        rw [hr] at g1 g2 ⊢
        have hd : decide ((progS x.d 0 0 0).2 = 0) = false := decide_eq_false hp'
        refine ⟨rfl, rfl, ⟨rfl, ?_, hd.symm, fun e => ?_, fun e => ?_, Nat.zero_le _, fun y hy => (by cases hy), h.pn2, h.s2, fun e => ?_, h.m2⟩, hb.dims g2 g1⟩
        · exact g2.ns.symm
        · exact absurd (hd.symm.trans e) (by decide)
        · exact absurd (hd.symm.trans e) (by decide)
        · exact absurd (hd.symm.trans e) (by decide)
theorem progsD_ok : ∀ (l : List Nat) {d : Dev} (σ fr : Nat), d.Ok → (∀ x ∈ l, x < 4294967296) → (progsD d σ fr l).1.Ok ∧ DimsJ d (progsD d σ fr l).1
  | [], d, σ, fr, h, _ => ⟨h, DimsJ.refl d⟩
  | x :: l, d, σ, fr, h, hl => by
    have h1 := progS_ok h ((σ + fr / d.nw : Nat) : Int) ((fr % d.nw : Nat) : Int) x (hl x (by simp))
    have h2 := prog_dims d ((σ + fr / d.nw : Nat) : Int) ((fr % d.nw : Nat) : Int) x
    have h3 := progsD_ok l σ (fr + 1) h1 (fun y hy => hl y (by simp [hy]))
    rw [progsD]
    split
    · exact ⟨h3.1, h2.trans h3.2⟩
    · exact ⟨h1, h2⟩
theorem putL_progsD : ∀ (l : List Nat) (d : Dev) (b : BkS), b.base = 0 → (putL d b l).1 = (progsD d 2 b.pn l).1 ∧ (putL d b l).2.2 = (progsD d 2 b.pn l).2 ∧ (putL d b l).2.1.base = 0 ∧ (putL d b l).2.1.many = b.many ∧
    ((progsD d 2 b.pn l).2 = 0 → (putL d b l).2.1.opn = b.opn ∧ (putL d b l).2.1.pn = b.pn + l.length ∧ (putL d b l).2.1.s = foldC b.s l) ∧ ((progsD d 2 b.pn l).2 ≠ 0 → (putL d b l).2.1.opn = false)
  | [], d, b, h => ⟨rfl, rfl, h, rfl, fun _ => ⟨rfl, rfl, rfl⟩, fun e => absurd rfl e⟩
  | x :: l, d, b, h => by
    rw [putL, progsD, h]
    simp only [Nat.zero_add]
    by_cases hp : (progS d ((2 + b.pn / d.nw : Nat) : Int) ((b.pn % d.nw : Nat) : Int) x).2 = 0
    · simp only [if_pos hp]
      obtain ⟨k1, k2, k3, k4, k5, k6⟩ := putL_progsD l (progS d ((2 + b.pn / d.nw : Nat) : Int) ((b.pn % d.nw : Nat) : Int) x).1 { b with base := 0, pn := b.pn + 1, s := wordC b.s x, m := b.m + 4 } rfl
      refine ⟨k1, k2, k3, k4, fun e => ?_, k6⟩
      obtain ⟨m1, m2, m3⟩ := k5 e
      refine ⟨m1, ?_, m3⟩
      rw [m2, List.length_cons]
      show b.pn + 1 + l.length = _
      omega
    · rw [if_neg hp, if_neg hp]
      exact ⟨rfl, rfl, rfl, rfl, fun e => absurd e hp, fun _ => rfl⟩
theorem putL_bounds : ∀ (l : List Nat) (d : Dev) (b : BkS), (∀ y ∈ l, y < 4294967296) → b.s < 4294967296 → (putL d b l).2.1.pn ≤ b.pn + l.length ∧ (putL d b l).2.1.s < 4294967296 ∧ (putL d b l).2.1.m ≤ b.m + 4 * l.length ∧ ((putL d b l).2.2 = 0 → (putL d b l).2.1.m = b.m + 4 * l.length)
  | [], d, b, _, hs => ⟨Nat.le_refl _, hs, Nat.le_refl _, fun _ => rfl⟩
  | x :: l, d, b, hl, hs => by
    rw [putL]
    by_cases hp : (progS d ((b.base + 2 + b.pn / d.nw : Nat) : Int) ((b.pn % d.nw : Nat) : Int) x).2 = 0
    · rw [if_pos hp]
      obtain ⟨k1, k2, k3, k4⟩ := putL_bounds l (progS d ((b.base + 2 + b.pn / d.nw : Nat) : Int) ((b.pn % d.nw : Nat) : Int) x).1 { b with pn := b.pn + 1, s := wordC b.s x, m := b.m + 4 } (fun y hy => hl y (by simp [hy])) (wordC_lt hs (hl x (by simp)))
      refine ⟨Nat.le_trans k1 ?_, k2, Nat.le_trans k3 ?_, fun e => (k4 e).trans ?_⟩
      · show b.pn + 1 + l.length ≤ _; rw [List.length_cons]; omega
      · show b.m + 4 + 4 * l.length ≤ _; rw [List.length_cons]; omega
      · show b.m + 4 + 4 * l.length = _; rw [List.length_cons]; omega
    · rw [if_neg hp]
      exact ⟨by show b.pn ≤ _; omega, hs, by show b.m ≤ _; omega, fun e => absurd e hp⟩
theorem foldC_app (s : Nat) (l r : List Nat) : foldC s (l ++ r) = foldC (foldC s l) r := List.foldl_append ..
/-- Put. -/
theorem same_put {x : BenS} {b : BkS} (h : SameB x b) (hb : BigB x.d) {l : List Nat} (hl : ∀ y ∈ l, y < 4294967296) : (putB x.d b l).1 = (putD x l).1.d ∧ (putB x.d b l).2.2 = (putD x l).2 ∧ SameB (putD x l).1 (putB x.d b l).2.1 ∧ BigB (putD x l).1.d := by
  have hr := h.room hb
  unfold putB putD
  rw [h.opn]
  by_cases ho : x.opn = false
  · rw [if_pos ho, if_pos ho]
    exact ⟨rfl, rfl, h, hb⟩
  · rw [if_neg ho, if_neg ho, hr, room_cast hb.three]
    have ht : x.opn = true := by cases hx : x.opn <;> simp_all
    rw [h.pn ht]
    by_cases hc : (((x.d.ns : Int) - 2) * (x.d.nw : Int)) - (x.put.length : Int) < (l.length : Int)
    · rw [if_pos hc, if_pos hc]
      exact ⟨rfl, rfl, h, hb⟩
    · rw [if_neg hc, if_neg hc]
      obtain ⟨k1, k2, k3, k4, k5, k6⟩ := putL_progsD l x.d b h.base
      obtain ⟨g1, g2⟩ := progsD_ok l 2 x.put.length hb.ok hl
      rw [h.pn ht] at k1 k2 k5 k6
      have hlen : (x.put ++ l).length ≤ (x.d.ns - 2) * x.d.nw := by
        rw [List.length_append]
        rw [← room_cast hb.three] at hc
        have := h.len
        omega
      obtain ⟨t1, t2, t3, t4⟩ := putL_bounds l x.d b hl h.s2
      have hrm := hb.room
      have hbp := h.pn ht
      have hbm := h.m ht
      have hlen2 := hlen
      rw [List.length_append] at hlen2
      refine ⟨k1, k2, ⟨k3, ?_, ?_, fun e => ?_, fun e => ?_, ?_, fun y hy => ?_, by omega, t2, fun e => ?_, by omega⟩, hb.dims g2 g1⟩
      · rw [k4, h.many]; exact g2.ns.symm
      · by_cases he : (progsD x.d 2 x.put.length l).2 = 0
        · rw [(k5 he).1, h.opn, ht]
          exact (decide_eq_true he).symm
        · rw [k6 he]
          exact (decide_eq_false he).symm
      · have he := of_decide_eq_true e
        rw [(k5 he).2.1, List.length_append]
      · have he := of_decide_eq_true e
        rw [(k5 he).2.2, h.s ht]
        exact (foldC_app _ _ _).symm
      · show (x.put ++ l).length ≤ _
        rw [g2.ns, g2.nw]
        exact hlen
      · rcases List.mem_append.1 hy with hy | hy
        · exact h.lt y hy
        · exact hl y hy
      · rw [t4 (k2.trans (of_decide_eq_true e)), List.length_append]
        omega
/-- Words of sector 1, one behind the other. -/
theorem progsH_progsD : ∀ (l : List Nat) (d : Dev) (k : Nat), k + l.length ≤ d.nw → progsH d 1 (l.zipIdx.map (fun p => (p.2 + k, p.1))) = progsD d 1 k l
  | [], d, k, _ => rfl
  | x :: l, d, k, h => by
    rw [List.length_cons] at h
    have e1 : ((x :: l).zipIdx.map (fun p => (p.2 + k, p.1))) = (k, x) :: l.zipIdx.map (fun p => (p.2 + (k + 1), p.1)) := by
      rw [List.zipIdx_cons, List.map_cons, List.zipIdx_succ, List.map_map]
      simp only [Nat.zero_add]
      congr 1
      refine List.map_congr_left (fun p _ => ?_)
      show (p.2 + 1 + k, p.1) = _
      congr 1
      omega
    rw [e1, progsH, progsD, Nat.div_eq_of_lt (by omega), Nat.mod_eq_of_lt (by omega)]
    have hd := (prog_dims d ((1 : Nat) : Int) (k : Int) x).nw
    have := progsH_progsD l (progS d ((1 : Nat) : Int) (k : Int) x).1 (k + 1) (by rw [hd]; omega)
    rw [this]
theorem commit_words (q n c : Nat) (hq : q < 4294967296) : headW q n c ++ pairH 6 1668246893 = ((wordsH q n c false).take 8).zipIdx.map (fun p => (p.2 + 0, p.1)) := rfl
theorem crcL_cpl (l : List Nat) : cplJ (foldC 4294967295 l) = crcL l := rfl
/-- Commit. -/
theorem same_commit {x : BenS} {b : BkS} (h : SameB x b) (hb : BigB x.d) {q : Nat} (hq : q < 4294967296) : (commitB x.d b q).1 = (commitD x q).1.d ∧ (commitB x.d b q).2.2 = (commitD x q).2 ∧ SameB (commitD x q).1 (commitB x.d b q).2.1 ∧ BigB (commitD x q).1.d := by
  by_cases ho : x.opn = false
  · unfold commitB commitD
    rw [if_pos (.inl (h.opn.trans ho)), if_pos (.inl ho)]
    exact ⟨rfl, rfl, h, hb⟩
  · have ht : x.opn = true := by cases hx : x.opn <;> simp_all
    by_cases h0 : x.put.length = 0
    · unfold commitB commitD
      rw [if_pos (.inr ((h.pn ht).trans h0)), if_pos (.inr (List.eq_nil_of_length_eq_zero h0))]
      exact ⟨rfl, rfl, h, hb⟩
    · have hA : commitD x q = (⟨(progsD x.d 1 0 ((wordsH q x.put.length (crcL x.put) false).take 8)).1, false, x.put⟩, (progsD x.d 1 0 ((wordsH q x.put.length (crcL x.put) false).take 8)).2) := by
        unfold commitD
        rw [if_neg (by rintro (e | e); exact ho e; exact h0 (by rw [e]; rfl))]
      have hB : commitB x.d b q = if (progsH x.d 1 (headW q x.put.length (crcL x.put))).2 = 0 then
          ((progsH (progsH x.d 1 (headW q x.put.length (crcL x.put))).1 1 (pairH 6 1668246893)).1, { b with opn := false }, (progsH (progsH x.d 1 (headW q x.put.length (crcL x.put))).1 1 (pairH 6 1668246893)).2)
        else ((progsH x.d 1 (headW q x.put.length (crcL x.put))).1, { b with opn := false }, (progsH x.d 1 (headW q x.put.length (crcL x.put))).2) := by
        unfold commitB
        rw [if_neg (by rintro (e | e); exact ho (h.opn.symm.trans e); exact h0 ((h.pn ht).symm.trans e)), h.base, h.pn ht, h.s ht, crcL_cpl]
      rw [hA, hB]
      have e1 := progsH_progsD ((wordsH q x.put.length (crcL x.put) false).take 8) x.d 0 (by have := hb.words; show 0 + 8 ≤ _; omega)
      rw [← commit_words _ _ _ hq] at e1
      rw [← e1]
      have hs : ∀ (d' : Dev), DimsJ x.d d' → SameB ⟨d', false, x.put⟩ { b with opn := false } := fun d' hd => ⟨h.base, by show b.many = d'.ns; rw [h.many, hd.ns], rfl, fun e => (by cases e), fun e => (by cases e), by show _ ≤ (d'.ns - 2) * d'.nw; rw [hd.ns, hd.nw]; exact h.len, h.lt, h.pn2, h.s2, fun e => (by cases e), h.m2⟩
      have hp32 : ∀ y ∈ pairH 6 1668246893, y.2 < 4294967296 := pairH_lt (by decide)
      have hc : x.put.length < 4294967296 := by have := h.len; have := hb.room; omega
      have hw := headW_lt hq hc (crcL_lt x.put)
      by_cases he : (progsH x.d 1 (headW q x.put.length (crcL x.put))).2 = 0
      · rw [if_pos he]
        have e2 := progsH_app _ (pairH 6 1668246893) x.d _ 1 (show progsH x.d 1 (headW q x.put.length (crcL x.put)) = ((progsH x.d 1 (headW q x.put.length (crcL x.put))).1, 0) by rw [← he])
        rw [e2]
        obtain ⟨a1, a2⟩ := progsH_ok _ x.d 1 hb.ok hw
        obtain ⟨a3, a4⟩ := progsH_ok (pairH 6 1668246893) _ 1 a1 hp32
        exact ⟨rfl, rfl, hs _ (a2.trans a4), hb.dims (a2.trans a4) a3⟩
      · rw [if_neg he]
        have e2 := progsH_stop _ (pairH 6 1668246893) x.d _ 1 _ (show progsH x.d 1 (headW q x.put.length (crcL x.put)) = ((progsH x.d 1 (headW q x.put.length (crcL x.put))).1, (progsH x.d 1 (headW q x.put.length (crcL x.put))).2) from rfl) he
        rw [e2]
        obtain ⟨a1, a2⟩ := progsH_ok _ x.d 1 hb.ok hw
        exact ⟨rfl, rfl, hs _ a2, hb.dims a2 a1⟩
theorem bad_state {x : BenS} {b : BkS} (h : SameB x b) (hb : BigB x.d) : badD x.d ↔ ((stateB x.d b).valid = false ∨ (stateB x.d b).conf = true) := by
  have hr := h.room hb
  unfold badD stateB voidB secB
  rw [hr, h.base]
  rw [← room_cast hb.three]
  by_cases h0 : wdJ x.d 0 0 = 4294967295
  · by_cases hl : (x.d.ns - 2) * x.d.nw < (headH (sectL x.d 1)).long
    · rw [if_pos (.inr hl)]
      exact ⟨fun _ => .inl rfl, fun _ => .inr (.inr (.inr (by omega)))⟩
    · rw [if_neg (by rintro (e | e); exact of_decide_eq_true e h0; exact hl e)]
      constructor
      · rintro (e | e | e | e)
        · exact absurd h0 e
        · exact .inl e
        · exact .inr e
        · omega
      · rintro (e | e)
        · exact .inr (.inl e)
        · exact .inr (.inr (.inl e))
  · rw [if_pos (.inl (decide_eq_true h0))]
    exact ⟨fun _ => .inl rfl, fun _ => .inl h0⟩
theorem SameB.dev {x : BenS} {b : BkS} (h : SameB x b) {d' : Dev} (hd : DimsJ x.d d') : SameB { x with d := d' } b := ⟨h.base, by show b.many = d'.ns; rw [h.many, hd.ns], h.opn, h.pn, h.s, by show _ ≤ (d'.ns - 2) * d'.nw; rw [hd.ns, hd.nw]; exact h.len, h.lt, h.pn2, h.s2, h.m, h.m2⟩
/-- Confirm. -/
theorem same_confirm {x : BenS} {b : BkS} (h : SameB x b) (hb : BigB x.d) : (confirmB x.d b).1 = (markD x false).1.d ∧ (confirmB x.d b).2 = (markD x false).2 ∧ SameB (markD x false).1 b ∧ BigB (markD x false).1.d := by
  have hst := bad_state h hb
  unfold confirmB markD
  by_cases hon : x.d.on = false
  · rw [if_pos hon, if_pos hon]
    exact ⟨rfl, rfl, h, hb⟩
  · rw [if_neg hon, if_neg hon]
    by_cases hB : badD x.d
    · rw [if_pos hB, if_pos (hst.1 hB)]
      exact ⟨rfl, rfl, h, hb⟩
    · rw [if_neg hB, if_neg (fun e => hB (hst.2 e)), h.base]
      rw [if_neg (show ¬ (false = true) by decide)]
      have e1 := progsH_progsD [1668247142, cplJ 1668247142] x.d 8 (by have := hb.words; show 8 + 2 ≤ _; omega)
      have e2 : pairH 8 1668247142 = ([1668247142, cplJ 1668247142]).zipIdx.map (fun p => (p.2 + 8, p.1)) := rfl
      rw [← e2] at e1
      rw [← e1]
      obtain ⟨a1, a2⟩ := progsH_ok (pairH 8 1668247142) x.d 1 hb.ok (pairH_lt (by decide))
      exact ⟨rfl, rfl, h.dev a2, hb.dims a2 a1⟩
/-- Try. -/
theorem same_try {x : BenS} {b : BkS} (h : SameB x b) (hb : BigB x.d) : (tryB x.d b).1 = (markD x true).1.d ∧ (tryB x.d b).2 = (markD x true).2 ∧ SameB (markD x true).1 b ∧ BigB (markD x true).1.d := by
  have hst := bad_state h hb
  unfold tryB markD secB
  by_cases hon : x.d.on = false
  · rw [if_pos hon, if_pos hon]
    exact ⟨rfl, rfl, h, hb⟩
  · rw [if_neg hon, if_neg hon]
    by_cases hB : badD x.d
    · rw [if_pos hB, if_pos (hst.1 hB)]
      exact ⟨rfl, rfl, h, hb⟩
    · rw [if_neg hB, if_neg (fun e => hB (hst.2 e)), if_pos rfl, h.base]
      show _ ∧ _ ∧ _ ∧ _
      rw [show 0 + 1 = 1 from rfl]
      cases hn : nextT (sectL x.d 1) 3 0 with
      | none => exact ⟨rfl, rfl, h, hb⟩
      | some i =>
        have a1 := progS_ok hb.ok (1 : Int) (i : Int) 0 (by decide)
        have a2 := prog_dims x.d (1 : Int) (i : Int) 0
        exact ⟨rfl, rfl, h.dev a2, hb.dims a2 a1⟩
/-- The image, by the document. -/
def imgD (d : Dev) : Option (List Nat) :=
  if d.on = false ∨ wdJ d 0 0 ≠ 4294967295 ∨ (headH (sectL d 1)).valid = false ∨ ((d.ns : Int) - 2) * (d.nw : Int) < ((headH (sectL d 1)).long : Int) then none
  else if crcL ((d.bits.drop (2 * d.nw)).take (headH (sectL d 1)).long) ≠ (headH (sectL d 1)).check then none
  else some ((d.bits.drop (2 * d.nw)).take (headH (sectL d 1)).long)
theorem same_image {x : BenS} {b : BkS} (h : SameB x b) (hb : BigB x.d) : imageB x.d b = imgD x.d := by
  have hr := h.room hb
  unfold imageB imgD
  by_cases hw : wdJ x.d 0 0 = 4294967295
  · by_cases hl : (x.d.ns - 2) * x.d.nw < (headH (sectL x.d 1)).long
    · have hs : (stateB x.d b).valid = false := by
        unfold stateB secB
        rw [hr, h.base, if_pos (.inr hl)]
      rw [if_neg (by rw [hs]; simp), if_pos (.inr (.inr (.inr (by rw [← room_cast hb.three]; omega))))]
    · have hs : stateB x.d b = headH (sectL x.d 1) := by
        unfold stateB secB voidB
        rw [hr, h.base, if_neg (by rintro (e | e); exact of_decide_eq_true e hw; exact hl e)]
      rw [hs]
      unfold dataB
      rw [h.base, Nat.zero_add]
      by_cases hon : x.d.on = false
      · rw [if_neg (by rw [hon]; simp), if_pos (.inl hon)]
      · have hon' : x.d.on = true := by cases hx : x.d.on <;> simp_all
        by_cases hv : (headH (sectL x.d 1)).valid = false
        · rw [if_neg (by rw [hv]; simp), if_pos (.inr (.inr (.inl hv)))]
        · have hv' : (headH (sectL x.d 1)).valid = true := by cases hx : (headH (sectL x.d 1)).valid <;> simp_all
          rw [if_neg (show ¬ (x.d.on = false ∨ wdJ x.d 0 0 ≠ 4294967295 ∨ (headH (sectL x.d 1)).valid = false ∨ ((x.d.ns : Int) - 2) * (x.d.nw : Int) < ((headH (sectL x.d 1)).long : Int)) by
            rw [← room_cast hb.three]
            rintro (e | e | e | e)
            · exact hon e
            · exact e hw
            · exact hv e
            · omega)]
          by_cases hc : crcL ((x.d.bits.drop (2 * x.d.nw)).take (headH (sectL x.d 1)).long) = (headH (sectL x.d 1)).check
          · rw [if_pos ⟨hv', hon', hc⟩, if_neg (fun e => e hc)]
          · rw [if_neg (fun e => hc e.2.2), if_pos hc]
  · have hs : (stateB x.d b).valid = false := by
      unfold stateB voidB
      rw [h.base, if_pos (.inl (decide_eq_true hw))]
    rw [if_neg (by rw [hs]; simp), if_pos (.inr (.inl hw))]
end Go.Proofs.Yteanpgkonhdbpaa

namespace Go.Proofs.Yteanpgkonhdbpaa
open Go.RowKit

/-- What the document's image hands back: words that lie somewhere. -/
def RetSl (w : World) (r : Option (List Nat)) (e : Ending) (w' : World) : Prop :=
  match r with
  | none => e = .returned (.tuple #[.slice none 0 0, .bool false]) ∧ Keep [] w w'
  | some l => ∃ A c, e = .returned (.tuple #[.slice A l.length c, .bool true]) ∧ Reads w' 1 A l.length (wordsV l) ∧ Keep [] w w'
theorem retSl_img {w w' : World} {r : Option (List Nat)} {e : Ending} (h : RetImg w r e w') : RetSl w r e w' := by
  cases r with
  | none => exact h
  | some l =>
    obtain ⟨A, c, h1, h2, h3⟩ := h
    exact ⟨A, c, h1, Reads.of_own h2, h3⟩

set_option maxRecDepth 100000 in
set_option maxHeartbeats 8000000 in
theorem image_any08 (base : Nat) (F : List Nat) (d : Dev) (A1 A2 : Option Addr) (c1 c2 : Nat) (w : World) (hr : ROwn base F w A1 A2 c1 c2 d) (ho : d.Ok) (h3 : 3 ≤ d.ns) (hrm : (d.ns - 2) * d.nw ≤ 4096) :
    Calls Try.prog 38 #[.agg (refV d A1 A2 c1 c2).toArray] w (RetSl w (imgD d)) := by
  have B0 := Blk.new w 57 (refV d A1 A2 c1 c2).toArray
  have k0 := (Keep.refl [] w).alloc (.cells (refV d A1 A2 c1 c2).toArray 57)
  obtain ⟨q0, q1, _, q3, _, q5, _, _, _, _⟩ := ref_cells d A1 A2 c1 c2
  have hwu : ∀ v : Nat, v < 4294967296 → IntKind.i64.wrap (v : Int) = (v : Int) := fun v hv => IntWalk.i64_in _ (by omega)
  have HAR : Hid (AggOf Try.prog 57 10) := agg_ref
  have HAS : Hid (AggOf Try.prog 145 6) := ⟨by kernel_rfl, by kernel_rfl⟩
  have HIM : Hid (imgD d = if d.on = false ∨ wdJ d 0 0 ≠ 4294967295 ∨ (headH (sectL d 1)).valid = false ∨ ((d.ns : Int) - 2) * (d.nw : Int) < ((headH (sectL d 1)).long : Int) then none
    else if crcL ((d.bits.drop (2 * d.nw)).take (headH (sectL d 1)).long) ≠ (headH (sectL d 1)).check then none
    else some ((d.bits.drop (2 * d.nw)).take (headH (sectL d 1)).long)) := show _ = _ from rfl
  generalize imgD d = res at *
  have hns := ho.ns2
  have hnw1 := ho.nw1
  have hnw := ho.nw2
  have hin := in_bits ho (s := 0) (q := 0) (by omega) (by omega)
  obtain ⟨qa, rfl, hc1, hc1m, hqa⟩ := rown_slice hr (by omega)
  have hcw : w.cell? ⟨qa, 0, none⟩ = some (.int .u32 ((wdJ d 0 0 : Nat) : Int)) := by
    obtain ⟨b, o, e, hb, hc⟩ := hr.at_.bits.addr (by omega)
    injection e with e
    injection e with e1 e2
    subst e1
    subst e2
    have := hc 0 (.int .u32 ((wdJ d 0 0 : Nat) : Int)) (by
      unfold wordsV wdJ
      have h0 : 0 * d.nw + 0 = 0 := by omega
      rw [h0] at hin ⊢
      rw [List.getElem?_map, List.getElem?_eq_getElem hin, List.getD_eq_getElem?_getD, List.getElem?_eq_getElem hin]
      rfl)
    exact this
  have hbl : 0 < d.bits.length := by omega
  have HWD : Hid (∀ W', Keep [] w W' → Calls Try.prog 40 #[.agg (refV d (some ⟨qa, 0, none⟩) A2 c1 c2).toArray, .int .i64 1] W' fun e w' => ∃ A c, e = .returned (.slice A d.nw c) ∧ Reads w' 1 A d.nw (wordsV (sectL d 1)) ∧ Keep [] W' w') := fun W' kk =>
    words_any08 base F (some ⟨qa, 0, none⟩) A2 c1 c2 d 1 W' (hr.keep0 kk) ho (by omega)
  have HSL : Hid ((sectL d 1).length = d.nw) := sectL_len d ho 1 (by omega)
  have HS32 := Lib.hid (sectL_lt ho 1)
  have HRD : Hid (∀ W' A c, Reads W' 1 A d.nw (wordsV (sectL d 1)) → Calls Try.prog 86 #[.slice A d.nw c] W' fun e w' => e = .returned (.agg (hdCells (headH (sectL d 1))).toArray) ∧ Keep [] W' w') := fun W' A c h => rhread_any A d.nw c (sectL d 1) W' HSL.out HS32.out h
  have hlg := headH_long HS32.out
  have HB := Lib.hid B0
  have HK0 := Lib.hid k0
  have HBITS : Hid (∀ W', Keep [] w W' → Reads W' 1 (some ⟨qa, 0, none⟩) d.bits.length (wordsV d.bits)) := fun W' kk => hr.at_.bits.keep0 kk
  have HBIT := Lib.hid ho.bit
  have HBLEN := Lib.hid ho.blen
  clear hr ho B0 k0 q0 q1 q3 q5 hin
  go_enter Try.func38, Try.ntmps38
  go_upto_region 1 with fail
  generalize w.alloc (.cells (refV d (some ⟨qa, 0, none⟩) A2 c1 c2).toArray 57) = W at *
  go_wp2_with (refine stop_load 57 (.tmp 1) rfl ?_)
  constructor
  refine wpList_load_agg rfl 57 (.tmp 1) rfl rfl (cs := refV d (some ⟨qa, 0, none⟩) A2 c1 c2) HAR.out HB.out.cellsAt ?_
  go_wp2_with fail
  refine (HWD.out W HK0.out).mono ?_
  rintro e w3 ⟨As, cs, rfl, hrs, k3⟩
  go_wp2_with fail
  refine (HRD.out w3 As cs hrs).mono ?_
  rintro e w4 ⟨rfl, k4⟩
  generalize hhh : headH (sectL d 1) = h at *
  go_wp2_with (refine stop_store 145 (.tmp 4) (.tmp 8) rfl ?_)
  constructor
  refine wpList_store_all rfl 145 (.tmp 4) (.tmp 8) rfl rfl rfl (t := 145) (cs := #[.int .u32 0, .int .u32 0, .int .u32 0, .bool false, .bool false, .int .i64 0]) (vs := hdCells h) HAS.out.2 (Blk.new _ _ _) (by simp [Value.oneCell']) rfl ?_
  intro w5 e5 k5
  have K5 : Keep [] W w5 := (k3.then k4).then (((Keep.refl [] w4).alloc _).trans k5 (fun y hy hl => by simp only [List.mem_cons, List.not_mem_nil, or_false] at hy; omega))
  have f1 : w5.cell? ⟨w4.heap.size, 1, none⟩ = some (.int .u32 (h.long : Int)) := e5.cell 1
  have f2 : w5.cell? ⟨w4.heap.size, 2, none⟩ = some (.int .u32 (h.check : Int)) := e5.cell 2
  have f3 : w5.cell? ⟨w4.heap.size, 3, none⟩ = some (.bool h.valid) := e5.cell 3
  have HE5 := Lib.hid e5
  have HK5 := Lib.hid K5
  have hb5 := HB.out.keep0 K5
  have g0 : w5.cell? ⟨w.heap.size, 0, none⟩ = some (.int .i64 (d.ns : Int)) := hb5.cell 0
  have g1 : w5.cell? ⟨w.heap.size, 1, none⟩ = some (.int .i64 (d.nw : Int)) := hb5.cell 1
  have g3 : w5.cell? ⟨w.heap.size, 3, none⟩ = some (.slice (some ⟨qa, 0, none⟩) d.bits.length c1) := hb5.cell 3
  have g5 : w5.cell? ⟨w.heap.size, 5, none⟩ = some (.bool (!d.on)) := hb5.cell 5
  have gq : w5.cell? ⟨qa, 0, none⟩ = some (.int .u32 ((wdJ d 0 0 : Nat) : Int)) := ((HK0.out.then K5).cell (p := ⟨qa, 0, none⟩) hqa (by simp)).trans hcw
  have HB5 := Lib.hid hb5
  clear e5 k5 k3 k4 K5 hrs hcw HB HWD HRD hb5
  generalize w4.heap.size = B6 at *
  have hmk : (((d.ns - 2) * d.nw : Nat) : Int) = ((d.ns : Int) - 2) * (d.nw : Int) := by rw [Int.natCast_mul, Int.ofNat_sub (by omega)]; rfl
  have hmb : (d.ns - 2) * d.nw ≤ 65536 := by omega
  have HIM2 := HIM.out
  rw [← hmk] at HIM2
  have hw1 : IntKind.i64.wrap ((d.ns : Int) - 2) = (d.ns : Int) - 2 := IntWalk.i64_in _ (by omega)
  have hw2 : IntKind.i64.wrap (((d.ns : Int) - 2) * (d.nw : Int)) = (((d.ns - 2) * d.nw : Nat) : Int) := by rw [← hmk]; exact IntWalk.i64_in _ (by omega)
  have hw3 : IntKind.i64.wrap (h.long : Int) = (h.long : Int) := IntWalk.i64_in _ (by omega)
  have hsp : 2 * d.nw + (d.ns - 2) * d.nw = d.bits.length := by rw [HBLEN.out, ← Nat.add_mul]; congr 1; omega
  have hrm1 : 1 ≤ (d.ns - 2) * d.nw := Nat.mul_pos (by omega) (by omega)
  generalize (d.ns - 2) * d.nw = rm at *
  generalize wdJ d 0 0 = x0 at *
  replace HIM := Lib.hid HIM2
  have hbi : (0 : Int) < (d.bits.length : Int) := by omega
  clear hmk HIM2 hwu
  cases hon : d.on with
  | false =>
    have HRS : Hid (res = none) := by show _ = _; rw [HIM.out, if_pos (.inl hon)]
    rw [hon] at g5
    have g5' : w5.cell? ⟨w.heap.size, 5, none⟩ = some (.bool true) := g5
    clear g5 HIM
    go_wp2_with fail
    go_ret2
    rw [HRS.out]
    exact ⟨rfl, HK0.out.then HK5.out⟩
  | true =>
    rw [hon] at g5
    have g5' : w5.cell? ⟨w.heap.size, 5, none⟩ = some (.bool false) := g5
    clear g5
    by_cases hx0 : x0 = 4294967295
    case neg =>
      have HRS : Hid (res = none) := by show _ = _; rw [HIM.out, if_pos (.inr (.inl hx0))]
      have q0 : ((x0 : Int) == 4294967295) = false := beq_eq_false_iff_ne.2 (by omega)
      have q1 : (x0 = 4294967295) = False := eq_false hx0
      have q2 : ((x0 : Int) = 4294967295) = False := eq_false (by omega)
      have q3 : ((x0 : Int) != 4294967295) = true := bne_iff_ne.2 (by omega)
      clear hx0 HIM
      go_wp2_with fail
      go_ret2
      rw [HRS.out]
      exact ⟨rfl, HK0.out.then HK5.out⟩
    case pos =>
      rw [hx0] at gq HIM
      have gq' : w5.cell? ⟨qa, 0, none⟩ = some (.int .u32 4294967295) := gq
      clear gq hx0
      cases hv : h.valid with
      | false =>
        have HRS : Hid (res = none) := by show _ = _; rw [HIM.out, if_pos (.inr (.inr (.inl hv)))]
        rw [hv] at f3
        clear HIM
        go_wp2_with fail
        go_ret2
        rw [HRS.out]
        exact ⟨rfl, HK0.out.then HK5.out⟩
      | true =>
        rw [hv] at f3
        by_cases hlo : (rm : Int) < (h.long : Int)
        · have HRS : Hid (res = none) := by show _ = _; rw [HIM.out, if_pos (.inr (.inr (.inr hlo)))]
          have p0 : decide ((rm : Int) < (h.long : Int)) = true := decide_eq_true hlo
          have p1 : (rm < h.long) = True := eq_true (by omega)
          clear HIM hlo
          go_wp2_with fail
          go_ret2
          rw [HRS.out]
          exact ⟨rfl, HK0.out.then HK5.out⟩
        · have HIM2 := HIM.out
          rw [if_neg (fun e => by rcases e with e | e | e | e; (rw [hon] at e; cases e); exact e rfl; (rw [hv] at e; cases e); exact hlo e)] at HIM2
          replace HIM := Lib.hid HIM2
          have p0 : decide ((rm : Int) < (h.long : Int)) = false := decide_eq_false hlo
          have p1 : (rm < h.long) = False := eq_false (by omega)
          have hll : h.long ≤ rm := by omega
          have z1 : IntKind.i64.wrap (2 * (d.nw : Int)) = ((2 * d.nw : Nat) : Int) := by rw [show 2 * (d.nw : Int) = ((2 * d.nw : Nat) : Int) by omega]; exact IntWalk.i64_in _ (by omega)
          have z2 : IntKind.i64.wrap (((2 * d.nw : Nat) : Int) + (h.long : Int)) = ((2 * d.nw + h.long : Nat) : Int) := by rw [show ((2 * d.nw : Nat) : Int) + (h.long : Int) = ((2 * d.nw + h.long : Nat) : Int) by omega]; exact IntWalk.i64_in _ (by omega)
          clear HIM2 hlo
          have y0 : (0 : Int) ≤ ((2 * d.nw : Nat) : Int) := by omega
          have y1 : ((2 * d.nw : Nat) : Int) ≤ ((2 * d.nw + h.long : Nat) : Int) := by omega
          have y2 : ((2 * d.nw + h.long : Nat) : Int) ≤ (c1 : Int) := by omega
          have y3 : (c1 = 2 * d.nw) = False := eq_false (by omega)
          generalize hlo2 : 2 * d.nw = lo at *
          generalize hhi2 : lo + h.long = hi at *
          go_upto_region 5 with fail
          have hhl : hi - lo = h.long := by omega
          rw [hhl]
          have HLS : Hid (((d.bits.drop lo).take h.long).length = h.long) := by
            show _ = _
            rw [List.length_take, List.length_drop]
            omega
          have HRS5 : Hid (∀ W', Keep [] w5 W' → Reads W' 1 (some ⟨qa, lo, none⟩) h.long (wordsV ((d.bits.drop lo).take h.long))) := fun W' kk => reads_mid (HBITS.out W' (HK0.out.then (HK5.out.then kk))) lo h.long (by omega) (by omega)
          have HL32 : Hid (∀ y ∈ (d.bits.drop lo).take h.long, y < 4294967296) := fun y hy => HBIT.out y (List.mem_of_mem_drop (List.mem_of_mem_take hy))
          have hX : ∀ W', Keep [] w5 W' → W'.cell? ⟨B6, 2, none⟩ = some (.int .u32 (h.check : Int)) ∧ True ∧ True := fun W' kk => ⟨(HE5.out.keep0 kk).cell 2, trivial, trivial⟩
          have hl4 : h.long ≤ 4096 := by omega
          clear z1 z2 y0 y1 y2 y3 p0 p1 hll hlo2 hhi2 hsp hw1 hw2 hw3 f1 f2 f3 g0 g1 g3 g5' gq' hlg HSL HS32 hhl
          generalize (d.bits.drop lo).take h.long = ls at *
          have HBY : Hid (∀ W', Keep [] w5 W' → Calls Try.prog 88 #[.slice (some ⟨qa, lo, none⟩) h.long (c1 - lo)] W' (RetBytes W' (bytesL ls))) := fun W' kk => rbytes_any _ h.long _ ls W' HLS.out HL32.out (HRS5.out W' kk) (by omega)
          have HSM : Hid (∀ W' A c, Reads W' 1 A (bytesL ls).length (bytesC (bytesL ls)) → Calls Try.prog 87 #[.slice A (bytesL ls).length c] W' fun e w' => e = .returned (.int .u32 ((crcL ls : Nat) : Int)) ∧ W' = w') := fun W' A c h' => by
            have := rsum_any A (bytesL ls).length c (bytesL ls) W' rfl (bytesL_256 HL32.out) h' (by rw [bytesL_len, HLS.out]; omega)
            rw [crcL_bytes] at this
            exact this
          refine ap_begin 5 (Keep [] w5) rfl (Keep.refl _ _).drew (fun hS hPan => ?_) (fun _ _ d _ _ h => by cases d <;> exact h)
          (refine ap_val (v := ?_) 0 rfl (by kernel_rfl) (by kernel_rfl) (by kernel_rfl) (by kernel_rfl) (by rfl) hPan ?_ hS ?_; rotate_left; (intro w' hSw; go_simp; try with_reducible rfl); simp only [Act.put, List.setIfInBounds_toArray, List.set_cons_zero, List.set_cons_succ])
          (refine ap_val (v := ?_) 3 rfl (by kernel_rfl) (by kernel_rfl) (by kernel_rfl) (by kernel_rfl) (by rfl) hPan ?_ hS ?_; rotate_left; (intro w' hSw; go_simp; try with_reducible rfl); simp only [Act.put, List.setIfInBounds_toArray, List.set_cons_zero, List.set_cons_succ])
          (refine ap_val (v := ?_) 4 rfl (by kernel_rfl) (by kernel_rfl) (by kernel_rfl) (by kernel_rfl) (by rfl) hPan ?_ hS ?_; rotate_left; (intro w' hSw; obtain ⟨f0,f1,f2⟩ := hX w' hSw; go_simp; try with_reducible rfl); simp only [Act.put, List.setIfInBounds_toArray, List.set_cons_zero, List.set_cons_succ])
          generalize w5.drew = wd at *
          refine ap_one 1 (by kernel_rfl) ?_
          refine op_call (f := 88) (vs := #[.slice (some ⟨qa, lo, none⟩) h.long (c1 - lo)]) 1 rfl (by kernel_rfl) rfl (by simp only [List.map_toArray, List.map_cons, List.map_nil]; rfl) Try.func88 (by kernel_rfl) (by kernel_rfl) (HBY.out wd hS) ?_
          rintro e w6 ⟨Ab, cb, rfl, hown, k6⟩
          have K6 := hS.then k6
          refine ⟨_, rfl, fun _ => K6, ?_⟩
          (simp only [Act.put, List.setIfInBounds_toArray, List.set_cons_zero, List.set_cons_succ])
          refine ap_one 2 (by kernel_rfl) ?_
          refine op_call (f := 87) (vs := #[.slice Ab (bytesL ls).length cb]) 2 rfl (by kernel_rfl) rfl (by simp only [List.map_toArray, List.map_cons, List.map_nil]; rfl) Try.func87 (by kernel_rfl) (by kernel_rfl) (HSM.out w6 Ab cb (Reads.of_own hown)) ?_
          rintro e w7 ⟨rfl, rfl⟩
          refine ⟨_, rfl, fun _ => K6, ?_⟩
          (simp only [Act.put, List.setIfInBounds_toArray, List.set_cons_zero, List.set_cons_succ])
          refine ap_one 5 (by kernel_rfl) ?_
          refine op_run (v := .bool (((crcL ls : Nat) : Int) != (h.check : Int))) (w' := w6) 5 rfl (by kernel_rfl) (by go_simp) ?_
          refine ⟨fun h => (by cases h), ap_done (by kernel_rfl) ?_ _⟩
          (simp only [Act.put, List.setIfInBounds_toArray, List.set_cons_zero, List.set_cons_succ])
          have HK6 := Lib.hid K6
          have hRF := HRS5.out w6 K6
          rw [show h.long = ls.length from HLS.out.symm] at hRF
          have HRF := Lib.hid hRF
          have HLE := HLS.out
          rw [← HLE]
          generalize hcl : crcL ls = cr at *
          clear hS hPan hX hown k6 K6 HBY HSM hRF hcl HLE HLS
          by_cases hcc : cr = h.check
          · have HRS : Hid (res = some ls) := by show _ = _; rw [HIM.out, if_neg (fun e => e hcc)]
            have t0 : ((cr : Int) != (h.check : Int)) = false := by simp; omega
            clear hcc HIM
            rw [t0]
            go_wp2_with fail
            go_ret2
            rw [HRS.out]
            exact ⟨_, _, rfl, HRF.out, HK0.out.then (HK5.out.then HK6.out)⟩
          · have HRS : Hid (res = none) := by show _ = _; rw [HIM.out, if_pos hcc]
            have t0 : ((cr : Int) != (h.check : Int)) = true := bne_iff_ne.2 (by omega)
            clear hcc HIM
            rw [t0]
            go_wp2_with fail
            go_ret2
            rw [HRS.out]
            exact ⟨rfl, HK0.out.then (HK5.out.then HK6.out)⟩

set_option maxRecDepth 100000 in
set_option maxHeartbeats 1000000 in
theorem brow_any (A B : Option Addr) (c e : Nat) (la lb : List Nat) (w : World) (hA : Reads w 1 A la.length (wordsV la)) (hB : Reads w 1 B lb.length (wordsV lb)) (ha : la.length ≤ 100000) (hb : lb.length ≤ 100000) :
    Calls Try.prog 37 #[.slice A la.length c, .slice B lb.length e] w fun e w' => e = .returned (.bool (decide (la = lb))) ∧ Keep [] w w' := by
  by_cases hl : la.length = lb.length
  · have hln : ((la.length : Int) != (lb.length : Int)) = false := by simp; omega
    have HA : Hid (0 < la.length → ∃ b o, A = some ⟨b, o, none⟩ ∧ ∀ k, (hk : k < la.length) → ∀ W, Keep [] w W → W.cell? ⟨b, o + k, none⟩ = some (.int .u32 (la[k] : Int))) := fun h0 => by
      obtain ⟨b, o, e, hb, hc⟩ := hA.addr h0
      exact ⟨b, o, e, fun k hk W kk => (kk.cell (p := ⟨b, o + k, none⟩) hb (by simp)).trans (hc k _ (by rw [wordsV, List.getElem?_map, List.getElem?_eq_getElem hk]; rfl))⟩
    have HB : Hid (0 < lb.length → ∃ b o, B = some ⟨b, o, none⟩ ∧ ∀ k, (hk : k < lb.length) → ∀ W, Keep [] w W → W.cell? ⟨b, o + k, none⟩ = some (.int .u32 (lb[k] : Int))) := fun h0 => by
      obtain ⟨b, o, e, hb, hc⟩ := hB.addr h0
      exact ⟨b, o, e, fun k hk W kk => (kk.cell (p := ⟨b, o + k, none⟩) hb (by simp)).trans (hc k _ (by rw [wordsV, List.getElem?_map, List.getElem?_eq_getElem hk]; rfl))⟩
    have HL := Lib.hid hl
    clear hA hB
    go_enter Try.func37, Try.ntmps37
    clear hl
    go_wp2
    clear hln
    go_loopw [5] (fun vi wr => ∃ k : Nat, k ≤ la.length ∧ vi = .int .i64 (k : Int) ∧ la.take k = lb.take k ∧ Keep [] w wr) (fun vi _ => la.length - (intOf vi).toNat)
    case atStart => exact ⟨0, Nat.zero_le _, rfl, rfl, Keep.refl _ _⟩
    case round =>
      obtain ⟨k, hk, rfl, ht, hK⟩ := hrel
      by_cases hlt : k < la.length
      · have hl2 := HL.out
        have hlt2 : k < lb.length := by omega
        obtain ⟨b1, o1, hA1, hc1⟩ := HA.out (by omega)
        obtain ⟨b2, o2, hB1, hc2⟩ := HB.out (by omega)
        have HT1 : Hid (la.take (k + 1) = la.take k ++ [la[k]]) := by show _ = _; rw [List.take_succ_eq_append_getElem hlt]
        have HT2 : Hid (lb.take (k + 1) = lb.take k ++ [lb[k]]) := by show _ = _; rw [List.take_succ_eq_append_getElem hlt2]
        have HNE : Hid (la[k] ≠ lb[k] → la ≠ lb) := fun h e => h (by subst e; rfl)
        have hk0 : (0 : Int) ≤ (k : Int) := by omega
        have hk1 : (k : Int) < (la.length : Int) := by omega
        have hk2 : (k : Int) < (lb.length : Int) := by omega
        have hF : ∀ w', Keep [] wr w' → w'.cell? ⟨b1, o1 + k, none⟩ = some (.int .u32 (la[k] : Int)) ∧ w'.cell? ⟨b2, o2 + k, none⟩ = some (.int .u32 (lb[k] : Int)) := fun w' hk' => ⟨hc1 k hlt w' (hK.then hk'), hc2 k hlt2 w' (hK.then hk')⟩
        rw [hA1, hB1] at *
        clear hc1 hc2 hl2
        generalize la[k] = ya at *
        generalize lb[k] = yb at *
        go_wp2
        refine wp_region_flow (Keep [] wr) rfl (by kernel_rfl) (Keep.refl _ _).drew ?_
        repeat (refine fl_val (v := ?_) (by rfl) ?_ ?_; rotate_left; (intro w' hS; obtain ⟨f1,f2⟩ := hF w' hS; go_simp; with_reducible rfl); simp only [Act.put, List.setIfInBounds_toArray, List.set_cons_zero, List.set_cons_succ])
        refine fl_nil ?_
        intro w' hS
        clear hF
        by_cases he : ya = yb
        · have hn : ((ya : Int) != (yb : Int)) = false := by simp; omega
          go_wp2
          go_roundw
          case rel => exact ⟨k + 1, by omega, by go_num, by rw [HT1.out, HT2.out, ht, he], hK.then hS⟩
          case measure => simp [intOf] <;> omega
        · have hn : ((ya : Int) != (yb : Int)) = true := by simp; omega
          have HD : Hid (decide (la = lb) = false) := by show _ = _; exact decide_eq_false (HNE.out he)
          clear he
          go_wp2
          go_ret
          exact ⟨by rw [HD.out]; rfl, hK.then hS⟩
      · obtain rfl : k = la.length := by omega
        have HD : Hid (decide (la = lb) = true) := by
          show _ = _
          rw [List.take_length, List.take_of_length_le (by have := HL.out; omega)] at ht
          exact decide_eq_true ht
        clear ht
        go_wp2
        go_ret
        exact ⟨by rw [HD.out]; rfl, hK⟩
  · have hln : ((la.length : Int) != (lb.length : Int)) = true := by simp; omega
    have HD : Hid (decide (la = lb) = false) := by show _ = _; exact decide_eq_false (fun e => hl (by rw [e]))
    clear hl hA hB
    go_enter Try.func37, Try.ntmps37
    go_wp2
    go_ret
    exact ⟨by rw [HD.out]; rfl, Keep.refl _ _⟩
end Go.Proofs.Yteanpgkonhdbpaa
