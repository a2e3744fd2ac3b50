/- The document's put (law08), walked. Condition: the device is one that may be. The document's commit (law08), walked. Condition: the device is one that may be. -/
import Derived.Test.YteanpgkonhdbpaaBkU
namespace Go.Proofs.Yteanpgkonhdbpaa
open Go.RowKit

def putD (x : BenS) (l : List Nat) : BenS × Int :=
  if x.opn = false then (x, 80)
  else if (((x.d.ns : Int) - 2) * (x.d.nw : Int)) - (x.put.length : Int) < (l.length : Int) then (x, 81)
  else (⟨(progsD x.d 2 x.put.length l).1, decide ((progsD x.d 2 x.put.length l).2 = 0), x.put ++ l⟩, (progsD x.d 2 x.put.length l).2)
theorem off_own {B n c : Nat} {e : TypeId} {xs : List Value} {W : World} {A : Option Addr} {F : List Nat} (h : W.ownsRow B e 1 (.slice A n c) n xs) (hF : ∀ y ∈ F, y < B) : Off F A := fun ad ha hm => by
  subst ha
  have := (h.lt ad.block rfl).1
  have := hF _ hm
  omega

set_option maxRecDepth 100000 in
set_option maxHeartbeats 8000000 in
theorem put_any08 (base : Nat) (F : List Nat) (g gb : Nat) (x : BenS) (A1 A2 : Option Addr) (c1 c2 : Nat) (Ap : Option Addr) (cp : Nat) (A : Option Addr) (n c : Nat) (l : List Nat) (w : World) (hx : BenAt base F w A1 A2 c1 c2 Ap x) (ho : x.d.Ok) (h3 : 3 ≤ x.d.ns) (hF : ∀ y ∈ F, y < w.heap.size) (hbase : base ≤ w.heap.size)
    (hp : x.put.length ≤ 10000) (hn : n ≤ 50000) (hl : l.length = n) (h32 : ∀ y ∈ l, y < 4294967296) (hrd : Reads w 1 A n (wordsV l)) :
    Calls Try.prog 85 #[.agg (benchV g gb x A1 A2 c1 c2 Ap cp).toArray, .slice A n c] w (RetBen base F w g gb (putD x l).1 (putD x l).2) := by
  obtain ⟨b0, b1, k1, hsz⟩ := boxB_facts w (benchV g gb x A1 A2 c1 c2 Ap cp)
  have HW : Hid ((w.alloc (.cells (benchV g gb x A1 A2 c1 c2 Ap cp).toArray 76)).alloc (.cells zeroBen 76) = boxB w (benchV g gb x A1 A2 c1 c2 Ap cp)) := show _ = _ from rfl
  generalize boxB w (benchV g gb x A1 A2 c1 c2 Ap cp) = W at *
  have HA : Hid (AggOf Try.prog 76 14) := agg_ben
  have HAR : Hid (AggOf Try.prog 57 10) := agg_ref
  have HPD : Hid (putD x l = if x.opn = false then (x, 80) else if (((x.d.ns : Int) - 2) * (x.d.nw : Int)) - (x.put.length : Int) < (n : Int) then (x, 81)
    else (⟨(progsD x.d 2 x.put.length l).1, decide ((progsD x.d 2 x.put.length l).2 = 0), x.put ++ l⟩, (progsD x.d 2 x.put.length l).2)) := by
    show _ = _
    rw [← hl]
    rfl
  generalize putD x l = res at *
  have HB0 := Lib.hid b0
  have HB1 := Lib.hid b1
  have HK1 := Lib.hid k1
  obtain ⟨_, _, bc2, bc3, _, _, _, _, bc12, bc13⟩ := bench_cells g gb x A1 A2 c1 c2 Ap cp
  have d2 := (b0.cell 2).trans bc2
  have d3 := (b0.cell 3).trans bc3
  have d12 := (b0.cell 12).trans bc12
  have d13 := (b0.cell 13).trans bc13
  have HX := Lib.hid hx
  have HO := Lib.hid ho
  have HFF := Lib.hid hF
  have HL := Lib.hid hl
  have H32 := Lib.hid h32
  have HRD := Lib.hid hrd
  have hns := ho.ns2
  have hnw := ho.nw2
  clear b0 b1 k1 hx ho hF hl h32 hrd bc2 bc3 bc12 bc13
  go_enter Try.func85, Try.ntmps85
  cases hop : x.opn with
  | false =>
    have HRS : Hid (res = (x, 80)) := by show _ = _; rw [HPD.out, if_pos hop]
    rw [hop] at d12
    go_upto_region 1 with (rw [HW.out])
    clear HW
    go_wp2_with (first
      | (refine wpList_load_agg rfl 76 (.tmp 2) rfl rfl (cs := benchV g gb x A1 A2 c1 c2 Ap cp) HA.out ?_ ?_; exact HB0.out.cellsAt)
      | (refine wpList_store_all rfl 76 (.tmp 4) (.tmp 10) rfl rfl rfl (t := 76) (cs := zeroBen) (vs := benchV g gb x A1 A2 c1 c2 Ap cp) HA.out.2 ?_ (benchV_one _ _ _ _ _ _ _ _ _) rfl ?_; exact HB1.out; intro w2 e2 k2))
    refine bodyPost_ret (results_blk_tmp rfl _ rfl rfl e2 HA.out) rfl ?_
    rw [HRS.out]
    have kk : Keep [] w w2 := HK1.out.trans k2 (fun y hy hl => by simp only [List.mem_cons, List.not_mem_nil, or_false] at hy; omega)
    exact ⟨_, _, _, _, _, _, rfl, HX.out.keep0 kk, kk⟩
  | true =>
    rw [hop] at d12
    have HPD2 : Hid (res = if (((x.d.ns : Int) - 2) * (x.d.nw : Int)) - (x.put.length : Int) < (n : Int) then (x, 81)
      else (⟨(progsD x.d 2 x.put.length l).1, decide ((progsD x.d 2 x.put.length l).2 = 0), x.put ++ l⟩, (progsD x.d 2 x.put.length l).2)) := by show _ = _; rw [HPD.out, if_neg (by rw [hop]; decide)]
    clear HPD
    go_upto_region 1 with (rw [HW.out])
    clear HW
    have hmk : (((x.d.ns - 2) * x.d.nw : Nat) : Int) = ((x.d.ns : Int) - 2) * (x.d.nw : Int) := by rw [Int.natCast_mul, Int.ofNat_sub (by omega)]; rfl
    have hmb : (x.d.ns - 2) * x.d.nw ≤ 65536 := Nat.le_trans (Nat.mul_le_mul (show x.d.ns - 2 ≤ 64 by omega) hnw) (by decide)
    rw [← hmk] at HPD2
    have hw1 : IntKind.i64.wrap ((x.d.ns : Int) - 2) = (x.d.ns : Int) - 2 := IntWalk.i64_in _ (by omega)
    have hw2 : IntKind.i64.wrap (((x.d.ns : Int) - 2) * (x.d.nw : Int)) = (((x.d.ns - 2) * x.d.nw : Nat) : Int) := by rw [← hmk]; exact IntWalk.i64_in _ (by omega)
    generalize (x.d.ns - 2) * x.d.nw = rm at *
    have hw3 : IntKind.i64.wrap ((rm : Int) - (x.put.length : Int)) = (rm : Int) - (x.put.length : Int) := IntWalk.i64_in _ (by omega)
    clear hmk
    by_cases hfull : (rm : Int) - (x.put.length : Int) < (n : Int)
    · have HRS : Hid (res = (x, 81)) := by show _ = _; rw [HPD2.out, if_pos hfull]
      have q0 : decide ((rm : Int) - (x.put.length : Int) < (n : Int)) = true := decide_eq_true hfull
      have p0 := eq_true hfull
      clear HPD2
      go_wp2_with (first
        | (refine wpList_load_agg rfl 76 (.tmp 2) rfl rfl (cs := benchV g gb x A1 A2 c1 c2 Ap cp) HA.out ?_ ?_; exact HB0.out.cellsAt)
        | (refine wpList_store_all rfl 76 (.tmp 4) (.tmp 26) rfl rfl rfl (t := 76) (cs := zeroBen) (vs := benchV g gb x A1 A2 c1 c2 Ap cp) HA.out.2 ?_ (benchV_one _ _ _ _ _ _ _ _ _) rfl ?_; exact HB1.out; intro w2 e2 k2))
      refine bodyPost_ret (results_blk_tmp rfl _ rfl rfl e2 HA.out) rfl ?_
      rw [HRS.out]
      have kk : Keep [] w w2 := HK1.out.trans k2 (fun y hy hl => by simp only [List.mem_cons, List.not_mem_nil, or_false] at hy; omega)
      exact ⟨_, _, _, _, _, _, rfl, HX.out.keep0 kk, kk⟩
    · have HPD3 : Hid (res = (⟨(progsD x.d 2 x.put.length l).1, decide ((progsD x.d 2 x.put.length l).2 = 0), x.put ++ l⟩, (progsD x.d 2 x.put.length l).2)) := by show _ = _; rw [HPD2.out, if_neg hfull]
      have q0 : decide ((rm : Int) - (x.put.length : Int) < (n : Int)) = false := decide_eq_false hfull
      have p0 := eq_false hfull
      have HPC : Hid (Calls Try.prog 122 #[.agg (refV x.d A1 A2 c1 c2).toArray, .int .i64 2, .int .i64 (x.put.length : Int), .slice A n c] W (RetRef base F W (progsD x.d 2 x.put.length l).1 (progsD x.d 2 x.put.length l).2)) :=
        program_any08 base F A1 A2 c1 c2 x.d 2 x.put.length A n c l W (HX.out.rows.keep0 HK1.out) HO.out (fun y hy => by have := HFF.out y hy; omega) (by omega) (by decide) (by omega) HL.out H32.out (HRD.out.keep0 HK1.out)
      obtain ⟨d1, e1, hp1⟩ : ∃ d1 e1, progsD x.d 2 x.put.length l = (d1, e1) := ⟨_, _, rfl⟩
      rw [hp1] at HPC HPD3
      dsimp only at HPC HPD3
      clear HPD2 hp1 hfull
      go_wp2_with (refine stop_load 57 (.tmp 28) rfl ?_)
      constructor
      refine wpList_load_agg rfl 57 (.tmp 28) rfl rfl (f := 2) (cs := refV x.d A1 A2 c1 c2) HAR.out (bench_ref HB0.out) ?_
      go_wp2_with fail
      refine HPC.out.mono ?_
      rintro e w3 ⟨A1', A2', c1', c2', rfl, hro3, k3⟩
      have HB3 := Lib.hid (HB0.out.keep0 k3)
      have HB83 := Lib.hid (HB1.out.keep0 k3)
      have HRO3 := Lib.hid hro3
      have HK3 := Lib.hid (HK1.out.then k3)
      clear hro3 k3 HPC d2 d3 d12 d13
      go_wp2_with (refine stop_store 57 (.tmp 37) (.tmp 35) rfl ?_)
      constructor
      refine wpList_store_agg rfl 57 (.tmp 37) (.tmp 35) rfl rfl rfl (f := 2) (vs := refV d1 A1' A2' c1' c2') HAR.out.2 HB3.out (refV_one _ _ _ _ _) (by show 2 + 10 ≤ 14; decide) ?_
      intro w4 d4 k4
      rw [bench_put_ref] at d4
      have HB4 := Lib.hid d4
      have HRO4 := Lib.hid (HRO3.out.keepBlk HB3.out (by decide) (by decide) k4)
      have HB84 := Lib.hid (HB83.out.keep k4 (by simp))
      have HK4 : Hid (Keep [] w w4) := HK3.out.trans k4 (fun y hy hl => by simp only [List.mem_cons, List.not_mem_nil, or_false] at hy; omega)
      have d13 : w4.cell? ⟨w.heap.size, 13, none⟩ = some (.slice Ap x.put.length cp) := d4.cell 13
      clear d4 k4 HB3 HB83 HRO3 HK3 HB0 HB1
      have hz4 : w.heap.size < w4.heap.size := HB4.out.lt
      have hzn : w.heap.size ≠ w4.heap.size := by omega
      go_wp2_with (at_builtin; refine stop_at 41 rfl ?_)
      constructor
      have B5 := Blk.new w4 33 #[]
      have o5 : (w4.alloc (.cells #[] 33)).ownsRow w4.heap.size 33 1 (.slice (some ⟨w4.heap.size, 0, none⟩) 0 0) 0 [] := ⟨rfl, .inr ⟨w4.heap.size, 0, #[], rfl, Nat.le_refl _, B5, Nat.le_refl _, by unfold maxLen; omega, rfl, rfl⟩⟩
      have k5 : Keep [] w4 (w4.alloc (.cells #[] 33)) := (Keep.refl [] w4).alloc _
      have hone : ∀ L : List Nat, ∀ u ∈ wordsV L, u.oneCell' = true := by intro L u hu; obtain ⟨y, _, rfl⟩ := List.mem_map.1 hu; rfl
      have hsz5 : w4.heap.size ≤ (w4.alloc (.cells #[] 33)).heap.size := by simp
      refine wpList_append_reads rfl (.tmp 38) (.tmp 40) 54 rfl slice_u32 o5 rfl ((HX.out.put.keep0 HK4.out).keep0 k5) rfl (hone _) hsz5 (by omega) (by unfold maxLen; omega) ?_
      intro v6 w6 o6 k6 _
      have hk6 : Keep [] w4 w6 := k5.trans k6 (fun y hy hl => by simp [Value.ownBlock] at hy; omega)
      rw [Nat.zero_add, List.nil_append] at o6
      have HO6 := Lib.hid o6
      have HK6 := Lib.hid hk6
      clear o5 B5 k5 k6 o6
      go_wp2_with (at_builtin; refine stop_at 43 rfl ?_)
      constructor
      refine wpList_append_reads rfl (.tmp 41) (.tmp 42) 54 rfl slice_u32 HO6.out rfl ((HRD.out.keep0 HK4.out).keep0 HK6.out) rfl (hone _) (by have := hk6.size; omega) (by omega) (by unfold maxLen; omega) ?_
      intro v7 w7 o7 k7 _
      have hk7 : Keep [] w4 w7 := hk6.trans k7 (fun y hy hl => by
        have h1 := (HO6.out.lt y (by simpa using hy)).1
        omega)
      simp only [Act.put]
      obtain ⟨Aq, cq, rfl⟩ := own_shape o7
      have hPL : Hid ((x.put ++ l).length = x.put.length + n) := by show _ = _; rw [List.length_append, HL.out]
      have o8 : w7.ownsRow w4.heap.size 33 1 (.slice Aq (x.put.length + n) cq) (x.put.length + n) (wordsV (x.put ++ l)) := by
        unfold wordsV at o7 ⊢
        rw [List.map_append]
        exact o7
      have HO8 := Lib.hid o8
      have HB7 := Lib.hid (HB4.out.keep0 hk7)
      have HB87 := Lib.hid (HB84.out.keep0 hk7)
      have HRO7 := Lib.hid (HRO4.out.keep0 hk7)
      have HK7 := Lib.hid (HK4.out.then hk7)
      have hz7 : w.heap.size + 1 < w7.heap.size := HB87.out.lt
      have gf := Blk.frozen HB7.out 12
      have gf2 := Blk.frozen HB7.out 13
      have hgc : w7.cell? ⟨w.heap.size, 12, none⟩ = some (.bool x.opn) := HB7.out.cell 12
      have hgc2 : w7.cell? ⟨w.heap.size, 13, none⟩ = some (.slice Ap x.put.length cp) := HB7.out.cell 13
      have hz84 : w.heap.size + 1 < w4.heap.size := HB84.out.lt
      have HFN : Hid (∀ (o : Bool) w2, Keep [w.heap.size + 1] ((w7.setCell ⟨w.heap.size, 13, none⟩ (.slice Aq (x.put.length + n) cq)).setCell ⟨w.heap.size, 12, none⟩ (.bool o)) w2 → BenAt base F w2 A1' A2' c1' c2' Aq ⟨d1, o, x.put ++ l⟩ ∧ Keep [] w w2) := fun o w2 k2 => by
        have k1 : Keep [w.heap.size] w7 ((w7.setCell ⟨w.heap.size, 13, none⟩ (.slice Aq (x.put.length + n) cq)).setCell ⟨w.heap.size, 12, none⟩ (.bool o)) := (keep_set w7 w.heap.size 13 _).trans (keep_set _ w.heap.size 12 _) (fun y hy _ => hy)
        have r1 := HRO7.out.keepBlk HB7.out (by decide) (by decide) k1
        have b1 := HB87.out.keep k1 (by simp)
        have q1 := (Reads.of_own HO8.out).keep k1 (off_own HO8.out (fun y hy => by simp only [List.mem_cons, List.not_mem_nil, or_false] at hy; omega))
        have q2 := q1.keep k2 (off_own HO8.out (fun y hy => by simp only [List.mem_cons, List.not_mem_nil, or_false] at hy; omega))
        refine ⟨⟨r1.keepBlk b1 (by decide) (by decide) k2, ?_, fun _ => off_own HO8.out (fun y hy => by have := HFF.out y hy; omega)⟩, (HK7.out.trans k1 (fun y hy hl => by simp only [List.mem_cons, List.not_mem_nil, or_false] at hy; omega)).trans k2 (fun y hy hl => by simp only [List.mem_cons, List.not_mem_nil, or_false] at hy; omega)⟩
        show Reads w2 1 Aq (x.put ++ l).length _
        rw [hPL.out]
        exact q2
      have HSB : Hid (∀ o : Bool, Blk ((w7.setCell ⟨w.heap.size, 13, none⟩ (.slice Aq (x.put.length + n) cq)).setCell ⟨w.heap.size, 12, none⟩ (.bool o)) w.heap.size 76 (benchV g gb ⟨d1, o, x.put ++ l⟩ A1' A2' c1' c2' Aq cq).toArray ∧ Blk ((w7.setCell ⟨w.heap.size, 13, none⟩ (.slice Aq (x.put.length + n) cq)).setCell ⟨w.heap.size, 12, none⟩ (.bool o)) (w.heap.size + 1) 76 zeroBen) := fun o => by
        have s1 := Blk.set_ HB7.out 13 (.slice Aq (x.put ++ l).length cq)
        rw [bench_put_put] at s1
        have s2 := Blk.set_ s1 12 (.bool o)
        rw [bench_put_opn] at s2
        rw [hPL.out] at s2
        exact ⟨s2, (HB87.out.keep (keep_set w7 w.heap.size 13 _) (by simp)).keep (keep_set _ w.heap.size 12 _) (by simp)⟩
      clear o7 o8 k7 hk7 hk6 d13 HO6 HK6 HB4 HB84 HRO4
      by_cases he : e1 = 0
      · subst he
        have HRS : Hid (res = (⟨d1, true, x.put ++ l⟩, 0)) := HPD3.out
        go_wp2_with (first
          | (refine wpList_load_agg rfl 76 (.tmp 2) rfl rfl (cs := benchV g gb ⟨d1, true, x.put ++ l⟩ A1' A2' c1' c2' Aq cq) HA.out ?_ ?_; exact (HSB.out true).1.cellsAt)
          | (refine wpList_store_all rfl 76 (.tmp 4) (.tmp 48) rfl rfl rfl (t := 76) (cs := zeroBen) (vs := benchV g gb ⟨d1, true, x.put ++ l⟩ A1' A2' c1' c2' Aq cq) HA.out.2 ?_ (benchV_one _ _ _ _ _ _ _ _ _) rfl ?_; exact (HSB.out true).2; intro w2 e2 k2))
        refine bodyPost_ret (results_blk_tmp rfl _ rfl rfl e2 HA.out) rfl ?_
        rw [HRS.out]
        obtain ⟨f1, f2⟩ := HFN.out true w2 k2
        exact ⟨_, _, _, _, _, _, rfl, f1, f2⟩
      · have HRS : Hid (res = (⟨d1, false, x.put ++ l⟩, e1)) := by show _ = _; rw [HPD3.out, decide_eq_false he]
        have q3 : (e1 == 0) = false := beq_eq_false_iff_ne.2 he
        have q4 : (e1 = 0) = False := eq_false he
        go_wp2_with (first
          | (refine wpList_load_agg rfl 76 (.tmp 2) rfl rfl (cs := benchV g gb ⟨d1, false, x.put ++ l⟩ A1' A2' c1' c2' Aq cq) HA.out ?_ ?_; exact (HSB.out false).1.cellsAt)
          | (refine wpList_store_all rfl 76 (.tmp 4) (.tmp 48) rfl rfl rfl (t := 76) (cs := zeroBen) (vs := benchV g gb ⟨d1, false, x.put ++ l⟩ A1' A2' c1' c2' Aq cq) HA.out.2 ?_ (benchV_one _ _ _ _ _ _ _ _ _) rfl ?_; exact (HSB.out false).2; intro w2 e2 k2))
        refine bodyPost_ret (results_blk_tmp rfl _ rfl rfl e2 HA.out) rfl ?_
        rw [HRS.out]
        obtain ⟨f1, f2⟩ := HFN.out false w2 k2
        exact ⟨_, _, _, _, _, _, rfl, f1, f2⟩
end Go.Proofs.Yteanpgkonhdbpaa

namespace Go.Proofs.Yteanpgkonhdbpaa
open Go.RowKit

theorem bytesL_256 {l : List Nat} (h : ∀ y ∈ l, y < 4294967296) : ∀ b ∈ bytesL l, b < 256 := fun b hb => by
  obtain ⟨y, hy, hb⟩ := List.mem_flatMap.1 hb
  exact bytesW_lt (h y hy) b hb
theorem crcL_bytes (l : List Nat) : 4294967295 - (bytesL l).foldl byteC 4294967295 = crcL l := by unfold crcL; rw [foldC_bytes]
theorem crcL_lt (l : List Nat) : crcL l < 4294967296 := by unfold crcL; omega
theorem wordsH_lt {q n c : Nat} {cf : Bool} (hq : q < 4294967296) (hn : n < 4294967296) (hc : c < 4294967296) : ∀ y ∈ wordsH q n c cf, y < 4294967296 := by
  intro y hy
  have h1 := cpl_lt q
  have h2 := cpl_lt n
  have h3 := cpl_lt c
  have h4 := cpl_lt 1668246893
  have h5 := cpl_lt 1668247142
  unfold wordsH at hy
  simp only [List.mem_cons, List.not_mem_nil, or_false] at hy
  rcases hy with rfl | rfl | rfl | rfl | rfl | rfl | rfl | rfl | rfl | rfl | rfl | rfl | rfl <;> first | assumption | decide | (split <;> first | assumption | decide)
def commitD (x : BenS) (q : Nat) : BenS × Int :=
  if x.opn = false ∨ x.put = [] then (x, 80)
  else (⟨(progsD x.d 1 0 ((wordsH q x.put.length (crcL x.put) false).take 8)).1, false, x.put⟩, (progsD x.d 1 0 ((wordsH q x.put.length (crcL x.put) false).take 8)).2)

set_option maxRecDepth 100000 in
set_option maxHeartbeats 8000000 in
theorem commit_any08 (base : Nat) (F : List Nat) (g gb : Nat) (x : BenS) (q : Nat) (A1 A2 : Option Addr) (c1 c2 : Nat) (Ap : Option Addr) (cp : Nat) (w : World) (hx : BenAt base F w A1 A2 c1 c2 Ap x) (ho : x.d.Ok) (hF : ∀ y ∈ F, y < w.heap.size) (hbase : base ≤ w.heap.size)
    (hp : x.put.length ≤ 10000) (h32 : ∀ y ∈ x.put, y < 4294967296) (hq : q < 4294967296) :
    Calls Try.prog 80 #[.agg (benchV g gb x A1 A2 c1 c2 Ap cp).toArray, .int .u32 (q : Int)] w (RetBen base F w g gb (commitD x q).1 (commitD x q).2) := by
  obtain ⟨b0, b1, k1, hsz⟩ := boxB_facts w (benchV g gb x A1 A2 c1 c2 Ap cp)
  have HW : Hid ((w.alloc (.cells (benchV g gb x A1 A2 c1 c2 Ap cp).toArray 76)).alloc (.cells zeroBen 76) = boxB w (benchV g gb x A1 A2 c1 c2 Ap cp)) := show _ = _ from rfl
  generalize boxB w (benchV g gb x A1 A2 c1 c2 Ap cp) = W at *
  have HA : Hid (AggOf Try.prog 76 14) := agg_ben
  have HAR : Hid (AggOf Try.prog 57 10) := agg_ref
  have HCD : Hid (commitD x q = if x.opn = false ∨ x.put = [] then (x, 80)
    else (⟨(progsD x.d 1 0 ((wordsH q x.put.length (crcL x.put) false).take 8)).1, false, x.put⟩, (progsD x.d 1 0 ((wordsH q x.put.length (crcL x.put) false).take 8)).2)) := show _ = _ from rfl
  generalize commitD x q = res at *
  have HB0 := Lib.hid b0
  have HB1 := Lib.hid b1
  have HK1 := Lib.hid k1
  obtain ⟨_, _, _, _, _, _, _, _, bc12, bc13⟩ := bench_cells g gb x A1 A2 c1 c2 Ap cp
  have d12 := (b0.cell 12).trans bc12
  have d13 := (b0.cell 13).trans bc13
  have HX := Lib.hid hx
  have HO := Lib.hid ho
  have HFF := Lib.hid hF
  have H32 := Lib.hid h32
  have HQ := Lib.hid hq
  have gf := Blk.frozen b0 12
  have hgl := Blk.lt b0
  have s0 := Blk.set_ b0 12 (.bool false)
  rw [bench_put_opn] at s0
  have HS0 := Lib.hid s0
  have HK2 : Hid (Keep [] w (W.setCell ⟨w.heap.size, 12, none⟩ (.bool false))) := k1.trans (keep_set W w.heap.size 12 (.bool false)) (fun y hy hl => by simp only [List.mem_cons, List.not_mem_nil, or_false] at hy; omega)
  have HB2 : Hid (Blk (W.setCell ⟨w.heap.size, 12, none⟩ (.bool false)) (w.heap.size + 1) 76 zeroBen) := b1.keep (keep_set W w.heap.size 12 (.bool false)) (by simp)
  clear b0 b1 k1 s0 hx ho hF h32 hq bc12 bc13
  go_enter Try.func80, Try.ntmps80
  cases hop : x.opn with
  | false =>
    have HRS : Hid (res = (x, 80)) := by show _ = _; rw [HCD.out, if_pos (.inl hop)]
    rw [hop] at d12
    go_upto_region 1 with (rw [HW.out])
    clear HW gf hgl
    go_wp2_with (first
      | (refine wpList_load_agg rfl 76 (.tmp 2) rfl rfl (cs := benchV g gb x A1 A2 c1 c2 Ap cp) HA.out ?_ ?_; exact HB0.out.cellsAt)
      | (refine wpList_store_all rfl 76 (.tmp 4) (.tmp 17) rfl rfl rfl (t := 76) (cs := zeroBen) (vs := benchV g gb x A1 A2 c1 c2 Ap cp) HA.out.2 ?_ (benchV_one _ _ _ _ _ _ _ _ _) rfl ?_; exact HB1.out; intro w2 e2 k2))
    refine bodyPost_ret (results_blk_tmp rfl _ rfl rfl e2 HA.out) rfl ?_
    rw [HRS.out]
    have kk : Keep [] w w2 := HK1.out.trans k2 (fun y hy hl => by simp only [List.mem_cons, List.not_mem_nil, or_false] at hy; omega)
    exact ⟨_, _, _, _, _, _, rfl, HX.out.keep0 kk, kk⟩
  | true =>
    rw [hop] at d12
    by_cases hp0 : x.put.length = 0
    · have HRS : Hid (res = (x, 80)) := by show _ = _; rw [HCD.out, if_pos (.inr (List.eq_nil_of_length_eq_zero hp0))]
      rw [hp0] at d13
      go_upto_region 1 with (rw [HW.out])
      clear HW gf hgl
      go_wp2_with (first
        | (refine wpList_load_agg rfl 76 (.tmp 2) rfl rfl (cs := benchV g gb x A1 A2 c1 c2 Ap cp) HA.out ?_ ?_; exact HB0.out.cellsAt)
        | (refine wpList_store_all rfl 76 (.tmp 4) (.tmp 17) rfl rfl rfl (t := 76) (cs := zeroBen) (vs := benchV g gb x A1 A2 c1 c2 Ap cp) HA.out.2 ?_ (benchV_one _ _ _ _ _ _ _ _ _) rfl ?_; exact HB1.out; intro w2 e2 k2))
      refine bodyPost_ret (results_blk_tmp rfl _ rfl rfl e2 HA.out) rfl ?_
      rw [HRS.out]
      have kk : Keep [] w w2 := HK1.out.trans k2 (fun y hy hl => by simp only [List.mem_cons, List.not_mem_nil, or_false] at hy; omega)
      exact ⟨_, _, _, _, _, _, rfl, HX.out.keep0 kk, kk⟩
    · have HCD2 : Hid (res = (⟨(progsD x.d 1 0 ((wordsH q x.put.length (crcL x.put) false).take 8)).1, false, x.put⟩, (progsD x.d 1 0 ((wordsH q x.put.length (crcL x.put) false).take 8)).2)) := by
        show _ = _
        rw [HCD.out, if_neg ?_]
        rintro (h | h)
        · rw [hop] at h; cases h
        · rw [h] at hp0; exact hp0 rfl
      have q0 : decide ((x.put.length : Int) = 0) = false := decide_eq_false (by omega)
      have q1 : ((x.put.length : Int) = 0) = False := eq_false (by omega)
      have q2 := eq_false hp0
      have q3 : ((x.put.length : Int) == 0) = false := beq_eq_false_iff_ne.2 (by omega)
      clear HCD
      go_upto_region 4 with (rw [HW.out])
      clear HW gf hgl d12 d13 HB0 HB1 HK1 q0 q1 q2 q3
      generalize W.setCell ⟨w.heap.size, 12, none⟩ (.bool false) = W1 at *
      have hz1 : w.heap.size + 1 < W1.heap.size := HB2.out.lt
      have hX : ∀ W', Keep [] W1 W' → W'.cell? ⟨w.heap.size, 13, none⟩ = some (.slice Ap x.put.length cp) ∧ True ∧ True := fun W' kk => ⟨(HS0.out.keep0 kk).cell 13, trivial, trivial⟩
      have hwu : IntKind.u32.wrap (x.put.length : Int) = (x.put.length : Int) := IntWalk.u32_in _ (by omega)
      have HBY : Hid (∀ W', Keep [] W1 W' → Calls Try.prog 88 #[.slice Ap x.put.length cp] W' (RetBytes W' (bytesL x.put))) := fun W' kk => rbytes_any Ap x.put.length cp x.put W' rfl H32.out (HX.out.put.keep0 (HK2.out.then kk)) (by omega)
      have HSM : Hid (∀ W' A c, Reads W' 1 A (bytesL x.put).length (bytesC (bytesL x.put)) → Calls Try.prog 87 #[.slice A (bytesL x.put).length c] W' fun e w' => e = .returned (.int .u32 ((crcL x.put : Nat) : Int)) ∧ W' = w') := fun W' A c h => by
        have := rsum_any A (bytesL x.put).length c (bytesL x.put) W' rfl (bytesL_256 H32.out) h (by rw [bytesL_len]; omega)
        rw [crcL_bytes] at this
        exact this
      have HWH : Hid (∀ W', Calls Try.prog 121 #[.int .u32 (q : Int), .int .u32 (x.put.length : Int), .int .u32 ((crcL x.put : Nat) : Int), .bool true, .bool false] W' fun e w' => ∃ A cap, e = .returned (.slice A 13 cap) ∧ w'.ownsRow W'.heap.size 33 1 (.slice A 13 cap) 13 (wordsV (wordsH q x.put.length (crcL x.put) false)) ∧ Keep [] W' w') := fun W' =>
        hwords_any q x.put.length (crcL x.put) false W' HQ.out (by omega) (crcL_lt _)
      have H32W : Hid (∀ y ∈ (wordsH q x.put.length (crcL x.put) false).take 8, y < 4294967296) := fun y hy => wordsH_lt HQ.out (by omega) (crcL_lt _) y (List.mem_of_mem_take hy)
      have HLW : Hid ((wordsH q x.put.length (crcL x.put) false).length = 13) := show _ = _ from rfl
      generalize wordsH q x.put.length (crcL x.put) false = wh at *
      generalize crcL x.put = sm at *
      refine ap_begin 9 (Keep [] W1) rfl (Keep.refl _ _).drew (fun hS hPan => ?_) (fun _ _ d _ _ h => by cases d <;> exact h)
      (refine ap_val (v := ?_) 0 rfl (by kernel_rfl) (by kernel_rfl) (by kernel_rfl) (by kernel_rfl) (by rfl) hPan ?_ hS ?_; rotate_left; (intro w' hSw; go_simp; try with_reducible rfl); simp only [Act.put, List.setIfInBounds_toArray, List.set_cons_zero, List.set_cons_succ])
      (refine ap_val (v := ?_) 1 rfl (by kernel_rfl) (by kernel_rfl) (by kernel_rfl) (by kernel_rfl) (by rfl) hPan ?_ hS ?_; rotate_left; (intro w' hSw; go_simp; try with_reducible rfl); simp only [Act.put, List.setIfInBounds_toArray, List.set_cons_zero, List.set_cons_succ])
      (refine ap_val (v := ?_) 2 rfl (by kernel_rfl) (by kernel_rfl) (by kernel_rfl) (by kernel_rfl) (by rfl) hPan ?_ hS ?_; rotate_left; (intro w' hSw; obtain ⟨f0,f1,f2⟩ := hX w' hSw; go_simp; try with_reducible rfl); simp only [Act.put, List.setIfInBounds_toArray, List.set_cons_zero, List.set_cons_succ])
      (refine ap_val (v := ?_) 3 rfl (by kernel_rfl) (by kernel_rfl) (by kernel_rfl) (by kernel_rfl) (by rfl) hPan ?_ hS ?_; rotate_left; (intro w' hSw; go_simp; try with_reducible rfl); simp only [Act.put, List.setIfInBounds_toArray, List.set_cons_zero, List.set_cons_succ])
      (refine ap_val (v := ?_) 4 rfl (by kernel_rfl) (by kernel_rfl) (by kernel_rfl) (by kernel_rfl) (by rfl) hPan ?_ hS ?_; rotate_left; (intro w' hSw; go_simp; try with_reducible rfl); simp only [Act.put, List.setIfInBounds_toArray, List.set_cons_zero, List.set_cons_succ])
      (refine ap_val (v := ?_) 5 rfl (by kernel_rfl) (by kernel_rfl) (by kernel_rfl) (by kernel_rfl) (by rfl) hPan ?_ hS ?_; rotate_left; (intro w' hSw; go_simp; try with_reducible rfl); simp only [Act.put, List.setIfInBounds_toArray, List.set_cons_zero, List.set_cons_succ])
      (refine ap_val (v := ?_) 6 rfl (by kernel_rfl) (by kernel_rfl) (by kernel_rfl) (by kernel_rfl) (by rfl) hPan ?_ hS ?_; rotate_left; (intro w' hSw; obtain ⟨f0,f1,f2⟩ := hX w' hSw; go_simp; try with_reducible rfl); simp only [Act.put, List.setIfInBounds_toArray, List.set_cons_zero, List.set_cons_succ])
      generalize W1.drew = wd at *
      refine ap_one 7 (by kernel_rfl) ?_
      refine op_call (f := 88) (vs := #[.slice Ap x.put.length cp]) 7 rfl (by kernel_rfl) rfl (by simp only [List.map_toArray, List.map_cons, List.map_nil]; rfl) Try.func88 (by kernel_rfl) (by kernel_rfl) (HBY.out wd hS) ?_
      rintro e w3 ⟨Ab, cb, rfl, hown, k3⟩
      have K3 := hS.then k3
      refine ⟨_, rfl, fun _ => K3, ?_⟩
      (simp only [Act.put, List.setIfInBounds_toArray, List.set_cons_zero, List.set_cons_succ])
      refine ap_one 8 (by kernel_rfl) ?_
      refine op_call (f := 87) (vs := #[.slice Ab (bytesL x.put).length cb]) 8 rfl (by kernel_rfl) rfl (by simp only [List.map_toArray, List.map_cons, List.map_nil]; rfl) Try.func87 (by kernel_rfl) (by kernel_rfl) (HSM.out w3 Ab cb (Reads.of_own hown)) ?_
      rintro e w4 ⟨rfl, rfl⟩
      refine ⟨_, rfl, fun _ => K3, ?_⟩
      (simp only [Act.put, List.setIfInBounds_toArray, List.set_cons_zero, List.set_cons_succ])
      refine ap_one 9 (by kernel_rfl) ?_
      refine op_call (f := 121) (vs := #[.int .u32 (q : Int), .int .u32 (x.put.length : Int), .int .u32 ((sm : Nat) : Int), .bool true, .bool false]) 9 rfl (by kernel_rfl) rfl (by simp only [List.map_toArray, List.map_cons, List.map_nil]; rfl) Try.func121 (by kernel_rfl) (by kernel_rfl) (HWH.out w3) ?_
      rintro e w4 ⟨Aw, cw, rfl, how, k4⟩
      have K4 := K3.then k4
      refine ⟨_, rfl, fun h => (by cases h), ?_⟩
      (simp only [Act.put, List.setIfInBounds_toArray, List.set_cons_zero, List.set_cons_succ])
      refine ap_one 10 (by kernel_rfl) ?_
      refine op_run (v := .slice Aw 13 cw) (w' := w4) 10 rfl (by kernel_rfl) (by go_simp) ?_
      refine ⟨fun h => (by cases h), ap_done (by kernel_rfl) ?_ _⟩
      (simp only [Act.put, List.setIfInBounds_toArray, List.set_cons_zero, List.set_cons_succ])
      have HOW := Lib.hid how
      have HK4 := Lib.hid K4
      clear hS hPan hX hown k3 K3 how k4 K4 HBY HSM HWH hwu
      obtain ⟨aq, rfl, hcw⟩ : ∃ aq, Aw = some ⟨aq, 0, none⟩ ∧ 13 ≤ cw := by
        rcases HOW.out.2 with ⟨_, h0⟩ | ⟨q, cap, cur, hv, _, hg, hle, _⟩
        · cases h0
        · injection hv with e1 _ e3
          subst e1
          subst e3
          exact ⟨q, rfl, hle⟩
      have HRW : Hid (Reads w4 1 (some ⟨aq, 0, none⟩) 8 (wordsV (wh.take 8))) := by
        obtain ⟨b, o, e, hb, hc⟩ := (Reads.of_own HOW.out).addr (by decide)
        injection e with e
        injection e with e1 e2
        subst e1
        subst e2
        refine ⟨by simp [HLW.out], fun _ => ⟨_, _, rfl, hb, fun j u hj => hc j u ?_⟩⟩
        have hj8 : j < 8 := by
          have := (List.getElem?_eq_some_iff.1 hj).1
          simp at this
          omega
        rw [List.getElem?_map, List.getElem?_take_of_lt hj8] at hj
        rw [List.getElem?_map]
        exact hj
      have HPC : Hid (∀ W', Keep [] w4 W' → Calls Try.prog 122 #[.agg (refV x.d A1 A2 c1 c2).toArray, .int .i64 1, .int .i64 0, .slice (some ⟨aq, 0, none⟩) 8 cw] W' (RetRef base F W' (progsD x.d 1 0 (wh.take 8)).1 (progsD x.d 1 0 (wh.take 8)).2)) := fun W' kk => by
        have hz := HK4.out.size
        have hz' := kk.size
        exact program_any08 base F A1 A2 c1 c2 x.d 1 0 (some ⟨aq, 0, none⟩) 8 cw (wh.take 8) W' (HX.out.rows.keep0 (HK2.out.then (HK4.out.then kk))) HO.out (fun y hy => by have := HFF.out y hy; omega) (by omega) (by decide) (by decide) (by rw [List.length_take, HLW.out]; rfl) H32W.out (HRW.out.keep0 kk)
      obtain ⟨d1, e1, hp1⟩ : ∃ d1 e1, progsD x.d 1 0 (wh.take 8) = (d1, e1) := ⟨_, _, rfl⟩
      rw [hp1] at HPC HCD2
      dsimp only at HPC HCD2
      have HB4 := Lib.hid (HS0.out.keep0 HK4.out)
      have HB84 := Lib.hid (HB2.out.keep0 HK4.out)
      have HKK := Lib.hid (HK2.out.then HK4.out)
      have hc8 : (8 : Int) ≤ (cw : Int) := by omega
      have hc80 : (0 : Int) ≤ 8 := by decide
      have HCC : Hid (∀ W', Keep [] w4 W' → CellsAt W' w.heap.size 2 (refV x.d A1 A2 c1 c2)) := fun W' kk => bench_ref (x := { x with opn := false }) (HB4.out.keep0 kk)
      clear hp1 HS0 HB2 HK2 HK4 HOW H32W HLW
      go_upto_region 6 with fail
      refine ap_begin 9 (Keep [] w4) rfl (Keep.refl _ _).drew (fun hS hPan => ?_) (fun _ _ d _ _ h => by cases d <;> exact h)
      (refine ap_val (v := ?_) 0 rfl (by kernel_rfl) (by kernel_rfl) (by kernel_rfl) (by kernel_rfl) (by rfl) hPan ?_ hS ?_; rotate_left; (intro w' hSw; go_simp; try with_reducible rfl); simp only [Act.put, List.setIfInBounds_toArray, List.set_cons_zero, List.set_cons_succ])
      refine ap_agg 1 57 (.tmp 30) (refV x.d A1 A2 c1 c2) rfl (by kernel_rfl) (by kernel_rfl) (by kernel_rfl) (by kernel_rfl) (by rfl) hPan rfl rfl HAR.out HCC.out hS ?_
      (simp only [Act.put, List.setIfInBounds_toArray, List.set_cons_zero, List.set_cons_succ])
      (refine ap_val (v := ?_) 2 rfl (by kernel_rfl) (by kernel_rfl) (by kernel_rfl) (by kernel_rfl) (by rfl) hPan ?_ hS ?_; rotate_left; (intro w' hSw; go_simp; try with_reducible rfl); simp only [Act.put, List.setIfInBounds_toArray, List.set_cons_zero, List.set_cons_succ])
      (refine ap_val (v := ?_) 3 rfl (by kernel_rfl) (by kernel_rfl) (by kernel_rfl) (by kernel_rfl) (by rfl) hPan ?_ hS ?_; rotate_left; (intro w' hSw; go_simp; try with_reducible rfl); simp only [Act.put, List.setIfInBounds_toArray, List.set_cons_zero, List.set_cons_succ])
      generalize w4.drew = wd at *
      refine ap_one 4 (by kernel_rfl) ?_
      refine op_call (f := 122) (vs := #[.agg (refV x.d A1 A2 c1 c2).toArray, .int .i64 1, .int .i64 0, .slice (some ⟨aq, 0, none⟩) 8 cw]) 4 rfl (by kernel_rfl) rfl (by simp only [List.map_toArray, List.map_cons, List.map_nil]; rfl) Try.func122 (by kernel_rfl) (by kernel_rfl) (HPC.out wd hS) ?_
      rintro e w5 ⟨A1', A2', c1', c2', rfl, hro5, k5⟩
      have K5 := hS.then k5
      refine ⟨_, rfl, fun _ => K5, ?_⟩
      (simp only [Act.put, List.setIfInBounds_toArray, List.set_cons_zero, List.set_cons_succ])
      have HB5 := Lib.hid (HB4.out.keep0 K5)
      have HB85 := Lib.hid (HB84.out.keep0 K5)
      have HRO5 := Lib.hid hro5
      have HK5 := Lib.hid (HKK.out.then K5)
      have HFIN : Hid (∀ w9 w2, Keep [w.heap.size] w5 w9 → Keep [w.heap.size + 1] w9 w2 → BenAt base F w2 A1' A2' c1' c2' Ap ⟨d1, false, x.put⟩ ∧ Keep [] w w2) := fun w9 w2 k9 k2 => by
        have r1 := HRO5.out.keepBlk HB5.out (by decide) (by decide) k9
        have b1 := HB85.out.keep k9 (by simp)
        have kk : Keep [] w w2 := (HK5.out.trans k9 (fun y hy hl => by simp only [List.mem_cons, List.not_mem_nil, or_false] at hy; omega)).trans k2 (fun y hy hl => by simp only [List.mem_cons, List.not_mem_nil, or_false] at hy; omega)
        exact ⟨⟨r1.keepBlk b1 (by decide) (by decide) k2, HX.out.put.keep0 kk, HX.out.off⟩, kk⟩
      refine ap_one 5 (by kernel_rfl) ?_
      refine op_run (v := (.tuple #[.agg (refV d1 A1' A2' c1' c2').toArray, .int .i64 e1])) (w' := w5) 5 rfl (by kernel_rfl) (by go_simp) ?_
      refine ⟨fun _ => K5, ?_⟩
      (simp only [Act.put, List.setIfInBounds_toArray, List.set_cons_zero, List.set_cons_succ])
      replace hS := K5
      (refine ap_val (v := ?_) 6 rfl (by kernel_rfl) (by kernel_rfl) (by kernel_rfl) (by kernel_rfl) (by rfl) hPan ?_ hS ?_; rotate_left; (intro w' hSw; go_simp; try with_reducible rfl); simp only [Act.put, List.setIfInBounds_toArray, List.set_cons_zero, List.set_cons_succ])
      (refine ap_val (v := ?_) 8 rfl (by kernel_rfl) (by kernel_rfl) (by kernel_rfl) (by kernel_rfl) (by rfl) hPan ?_ hS ?_; rotate_left; (intro w' hSw; go_simp; try with_reducible rfl); simp only [Act.put, List.setIfInBounds_toArray, List.set_cons_zero, List.set_cons_succ])
      refine ap_twoJ 7 9 (by kernel_rfl) ?x1 ?y1
      case x1 =>
        refine op_run (v := (.int .i64 e1)) (w' := w5) 7 rfl (by kernel_rfl) (by go_simp) ?_
        refine ⟨fun _ => K5, ?_⟩
        (simp only [Act.put, List.setIfInBounds_toArray, List.set_cons_zero, List.set_cons_succ])
        refine ap_one 9 (by kernel_rfl) ?_
        refine op_store_part (f := 2) (vs := refV d1 A1' A2' c1' c2') 9 rfl (by kernel_rfl) rfl rfl rfl HAR.out.2 HB5.out (refV_one _ _ _ _ _) (by show 2 + 10 ≤ 14; decide) ?_
        intro w9 d9 k9
        rw [bench_put_ref] at d9
        refine ⟨fun h => (by cases h), ?_⟩
        (simp only [Act.put, List.setIfInBounds_toArray, List.set_cons_zero, List.set_cons_succ])
        refine ap_one 10 (by kernel_rfl) ?_
        refine op_run (v := (.int .i64 e1)) (w' := w9) 10 rfl (by kernel_rfl) (by go_simp) ?_
        refine ⟨fun h => (by cases h), ap_done (by kernel_rfl) ?_ _⟩
        (simp only [Act.put, List.setIfInBounds_toArray, List.set_cons_zero, List.set_cons_succ])
        have HD9 : Hid (Blk w9 w.heap.size 76 (benchV g gb ⟨d1, false, x.put⟩ A1' A2' c1' c2' Ap cp).toArray) := d9
        have HB89 := Lib.hid (HB85.out.keep k9 (by simp))
        have HK9 := Lib.hid k9
        have HRS : Hid (res = (⟨d1, false, x.put⟩, e1)) := HCD2.out
        clear d9 k9 hS hPan k5 K5 hro5 HPC HCC HCD2
        go_wp2_with (first
          | (refine wpList_load_agg rfl 76 (.tmp 2) rfl rfl (cs := benchV g gb ⟨d1, false, x.put⟩ A1' A2' c1' c2' Ap cp) HA.out ?_ ?_; exact HD9.out.cellsAt)
          | (refine wpList_store_all rfl 76 (.tmp 4) (.tmp 38) rfl rfl rfl (t := 76) (cs := zeroBen) (vs := benchV g gb ⟨d1, false, x.put⟩ A1' A2' c1' c2' Ap cp) HA.out.2 ?_ (benchV_one _ _ _ _ _ _ _ _ _) rfl ?_; exact HB89.out; intro w2 e2 k2))
        refine bodyPost_ret (results_blk_tmp rfl _ rfl rfl e2 HA.out) rfl ?_
        rw [HRS.out]
        obtain ⟨f1, f2⟩ := HFIN.out w9 w2 HK9.out k2
        exact ⟨_, _, _, _, _, _, rfl, f1, f2⟩
      case y1 =>
        refine op_store_part (f := 2) (vs := refV d1 A1' A2' c1' c2') 9 rfl (by kernel_rfl) rfl rfl rfl HAR.out.2 HB5.out (refV_one _ _ _ _ _) (by show 2 + 10 ≤ 14; decide) ?_
        intro w9 d9 k9
        rw [bench_put_ref] at d9
        refine ⟨fun h => (by cases h), ?_⟩
        (simp only [Act.put, List.setIfInBounds_toArray, List.set_cons_zero, List.set_cons_succ])
        refine ap_one 7 (by kernel_rfl) ?_
        refine op_run (v := (.int .i64 e1)) (w' := w9) 7 rfl (by kernel_rfl) (by go_simp) ?_
        refine ⟨fun h => (by cases h), ?_⟩
        (simp only [Act.put, List.setIfInBounds_toArray, List.set_cons_zero, List.set_cons_succ])
        refine ap_one 10 (by kernel_rfl) ?_
        refine op_run (v := (.int .i64 e1)) (w' := w9) 10 rfl (by kernel_rfl) (by go_simp) ?_
        refine ⟨fun h => (by cases h), ap_done (by kernel_rfl) ?_ _⟩
        (simp only [Act.put, List.setIfInBounds_toArray, List.set_cons_zero, List.set_cons_succ])
        have HD9 : Hid (Blk w9 w.heap.size 76 (benchV g gb ⟨d1, false, x.put⟩ A1' A2' c1' c2' Ap cp).toArray) := d9
        have HB89 := Lib.hid (HB85.out.keep k9 (by simp))
        have HK9 := Lib.hid k9
        have HRS : Hid (res = (⟨d1, false, x.put⟩, e1)) := HCD2.out
        clear d9 k9 hS hPan k5 K5 hro5 HPC HCC HCD2
        go_wp2_with (first
          | (refine wpList_load_agg rfl 76 (.tmp 2) rfl rfl (cs := benchV g gb ⟨d1, false, x.put⟩ A1' A2' c1' c2' Ap cp) HA.out ?_ ?_; exact HD9.out.cellsAt)
          | (refine wpList_store_all rfl 76 (.tmp 4) (.tmp 38) rfl rfl rfl (t := 76) (cs := zeroBen) (vs := benchV g gb ⟨d1, false, x.put⟩ A1' A2' c1' c2' Ap cp) HA.out.2 ?_ (benchV_one _ _ _ _ _ _ _ _ _) rfl ?_; exact HB89.out; intro w2 e2 k2))
        refine bodyPost_ret (results_blk_tmp rfl _ rfl rfl e2 HA.out) rfl ?_
        rw [HRS.out]
        obtain ⟨f1, f2⟩ := HFIN.out w9 w2 HK9.out k2
        exact ⟨_, _, _, _, _, _, rfl, f1, f2⟩
end Go.Proofs.Yteanpgkonhdbpaa
