/- BankWhole, walked: wholly, or not. No condition. -/
import Derived.Test.YteanpgkonhdbpaaBkWholeP
namespace Go.Proofs.Yteanpgkonhdbpaa
open Go.RowKit

/-- Words that lie somewhere off the blocks F. -/
structure RdO (F : List Nat) (w : World) (A : Option Addr) (l : List Nat) : Prop where
  rd : Reads w 1 A l.length (wordsV l)
  off : 0 < l.length → Off F A
theorem RdO.keep {F : List Nat} {w w' : World} {A : Option Addr} {l : List Nat} (h : RdO F w A l) (k : Keep F w w') : RdO F w' A l := by
  refine ⟨?_, h.off⟩
  by_cases h0 : 0 < l.length
  · exact h.rd.keep k (h.off h0)
  · exact ⟨h.rd.1, fun h1 => absurd h1 h0⟩
theorem RdO.keep0 {F : List Nat} {w w' : World} {A : Option Addr} {l : List Nat} (h : RdO F w A l) (k : Keep [] w w') : RdO F w' A l := ⟨h.rd.keep0 k, h.off⟩
theorem RdO.own {F : List Nat} {w' : World} {A : Option Addr} {l : List Nat} {B c : Nat} (h : w'.ownsRow B 33 1 (.slice A l.length c) l.length (wordsV l)) (hF : ∀ y ∈ F, y < B) : RdO F w' A l := ⟨Reads.of_own h, fun _ => off_own h hF⟩
theorem LawB.putO {bs : Nat} {w wr : World} {bx g gb b1 b2 : Nat} {x : BenS} {b : BkS} {A1 A2 : Option Addr} {c1 c2 : Nat} {Ap : Option Addr} {cp : Nat} (h : LawB bs w wr bx g gb b1 b2 x b A1 A2 c1 c2 Ap cp) : RdO [gb, g, b1, b2, bx] wr Ap x.put := ⟨h.ben.put, h.ben.off⟩
theorem bench_opn (g gb : Nat) (x : BenS) (A1 A2 : Option Addr) (c1 c2 : Nat) (Ap : Option Addr) (cp : Nat) : (benchV g gb x A1 A2 c1 c2 Ap cp).toArray[12]? = some (.bool x.opn) := (bench_cells g gb x A1 A2 c1 c2 Ap cp).2.2.2.2.2.2.2.2.1
theorem bench_put (g gb : Nat) (x : BenS) (A1 A2 : Option Addr) (c1 c2 : Nat) (Ap : Option Addr) (cp : Nat) : (benchV g gb x A1 A2 c1 c2 Ap cp).toArray[13]? = some (.slice Ap x.put.length cp) := (bench_cells g gb x A1 A2 c1 c2 Ap cp).2.2.2.2.2.2.2.2.2
theorem bench_off (g gb : Nat) (x : BenS) (A1 A2 : Option Addr) (c1 c2 : Nat) (Ap : Option Addr) (cp : Nat) : (benchV g gb x A1 A2 c1 c2 Ap cp).toArray[7]? = some (.bool (!x.d.on)) := (bench_cells g gb x A1 A2 c1 c2 Ap cp).2.2.2.2.2.2.2.1
/-- What the program's image hands back, off the blocks F. -/
def RetImO (F : List Nat) (w : World) (r : Option (List Nat)) (e : Ending) (w' : World) : Prop :=
  match r with
  | none => e = .returned (.tuple #[.slice none 0 0, .bool false]) ∧ Keep [] w w'
  | some l => ∃ A c, e = .returned (.tuple #[.slice A l.length c, .bool true]) ∧ RdO F w' A l ∧ Keep [] w w'
theorem retImO {F : List Nat} {w w' : World} {r : Option (List Nat)} {e : Ending} (h : RetImg w r e w') (hF : ∀ y ∈ F, y < w.heap.size) : RetImO F w r e w' := by
  cases r with
  | none => exact h
  | some l =>
    obtain ⟨A, c, h1, h2, h3⟩ := h
    exact ⟨A, c, h1, .own h2 hF, h3⟩

set_option maxRecDepth 100000 in
set_option maxHeartbeats 8000000 in
theorem whole_any08 (A : Option Addr) (c : Nat) (ms : List (BOp × BOpV)) (w : World) (hm : BOpsAt w A ms) :
    Calls Try.prog 6 #[.slice A ms.length c] w fun e w' => e = .returned (.bool true) ∧ Keep [] w w' := by
  have hl := hm.len
  unfold maxLen at hl
  have HGR := Lib.hid (great_any08 A c ms w hm)
  obtain ⟨d0, hd0⟩ : ∃ d0, newD 4 13 60 = d0 := ⟨_, rfl⟩
  have HST : Hid (∀ W, Calls Try.prog 35 #[.int .i64 60] W (RetStart W d0)) := fun W => by rw [← hd0]; exact start_any08 60 (by decide) W
  have HAL := Lib.hid alive_any08
  have hw0 : WInv ⟨d0, false, []⟩ [] [] false := by rw [← hd0]; exact start_w 60
  have HW0 := Lib.hid hw0
  clear hw0
  go_enter Try.func6, Try.ntmps6
  go_wp2_with fail
  refine HGR.out.mono ?_
  rintro e w1 ⟨r, rfl, hr, k1⟩
  clear HGR
  cases r
  case true =>
    clear hr hm HST
    go_wp2_with fail
    go_ret
    exact ⟨rfl, k1⟩
  obtain ⟨hg1, hg2⟩ := hr rfl
  have HG1 := Lib.hid hg1
  have HG2 := Lib.hid hg2
  have HM1 := Lib.hid (hm.keep0 k1)
  have HMW := Lib.hid hm
  have HK1 := Lib.hid k1
  clear hr hm k1 hg1 hg2
  go_wp2_with fail
  refine (HST.out w1).mono ?_
  rintro e w2 ⟨g, gb, b1, b2, A1, A2, c1, c2, rfl, hlo, hd2, hb2, hx2, k2⟩
  have HLO := Lib.hid hlo
  have HD2 := Lib.hid hd2
  have HB2 := Lib.hid hb2
  have HX2 := Lib.hid hx2
  have HK2 := Lib.hid k2
  have hsame := Lib.hid (same0 60 (by decide))
  clear hlo hd2 hb2 hx2 k2 HST
  have hx0 : x0B 60 = ⟨d0, false, []⟩ := by unfold x0B; rw [hd0]
  rw [hx0] at hsame
  clear hx0
  have hns0 : (⟨d0, false, []⟩ : BenS).d.ns = 4 := by show d0.ns = 4; rw [← hd0]; rfl
  have HNS0 := Lib.hid hns0
  replace HD2 : Hid (DevAt w2 g b1 b2 (⟨d0, false, []⟩ : BenS).d) := HD2
  clear hd0 hns0
  generalize (⟨d0, false, []⟩ : BenS) = x0 at *
  go_wp2_with (refine stop_store 76 (.tmp 3) (.tmp 17) rfl ?_)
  constructor
  refine wpList_store_all rfl 76 (.tmp 3) (.tmp 17) rfl rfl rfl (t := 76) (cs := zeroBen) (vs := benchV g gb x0 A1 A2 c1 c2 none 0) agg_ben.2 (Blk.new _ _ _) (benchV_one _ _ _ _ _ _ _ _ _) rfl ?_
  intro w4 d4 k4
  have hL0 : LawAt w1.heap.size w w4 w2.heap.size g gb b1 b2 x0 := by
    have K24 : Keep [] w2 w4 := ((Keep.refl [] w2).alloc _).trans k4 (fun y hy hl => by simp only [List.mem_cons, List.not_mem_nil, or_false] at hy; omega)
    obtain ⟨l1, l2, l3, l4⟩ := HLO.out
    have hz := HK1.out.size
    have hz2 := HK2.out.size
    have hw := (HX2.out.widen (G := [w2.heap.size]) (fun y hy => by simp only [List.mem_cons, List.not_mem_nil, or_false] at hy; omega)).keep0 K24
    exact ⟨newB 0 4, A1, A2, c1, c2, none, 0, HD2.out.keep0 K24, HB2.out.keep0 K24, hw, d4, hsame.out.1, hsame.out.2, by omega, by have := K24.size; omega, (HK1.out.then HK2.out).then K24⟩
  have HL0 := Lib.hid hL0
  clear hL0 d4 k4 HLO HD2 HB2 HX2 hsame
  generalize w1.heap.size = bs at *
  generalize w2.heap.size = bx at *
  go_wp2_with fail
  go_loopw [4, 5, 6, 7, 8, 9, 10, 11, 12] (fun v4 v5 v6 v7 v8 v9 v10 v11 v12 wr => ∃ (i : Nat) (x : BenS) (last now : List Nat) (sm : Bool) (Al : Option Addr) (cl : Nat) (An : Option Addr) (cn : Nat), i ≤ ms.length ∧ v8 = .int .i64 (i : Int) ∧ v5 = .slice Al last.length cl ∧ v6 = .slice An now.length cn ∧ v7 = .bool sm ∧
    WInv x last now sm ∧ RdO [gb, g, b1, b2, bx] wr Al last ∧ RdO [gb, g, b1, b2, bx] wr An now ∧ last.length ≤ 4096 ∧ now.length ≤ 4096 ∧ LawAt bs w wr bx g gb b1 b2 x) (fun _ _ _ _ v8 _ _ _ _ _ => ms.length - (intOf v8).toNat)
  case atStart => exact ⟨0, x0, [], [], false, none, 0, none, 0, Nat.zero_le _, rfl, rfl, rfl, rfl, HW0.out, ⟨Reads.none_, fun h => (by cases h)⟩, ⟨Reads.none_, fun h => (by cases h)⟩, by decide, by decide, HL0.out⟩
  case round =>
    obtain ⟨i, x, last, now, sm, Al, cl, An, cn, hi, rfl, rfl, rfl, rfl, hwi, hla, hnw, hll, hnl, b, A1, A2, c1, c2, Ap, cp, hL⟩ := hrel
    have HL := Lib.hid hL
    have HWI := Lib.hid hwi
    have HLA := Lib.hid hla
    have HNW := Lib.hid hnw
    have HLL := Lib.hid hll
    have HNL := Lib.hid hnl
    clear hL hwi hla hnw hll hnl
    by_cases hlt : i < ms.length
    · obtain ⟨ba, oa, rfl, hba, hc⟩ := HMW.out.op (by omega)
      have hcs : ∀ W', Keep [] w W' → ∀ k, (hk : k < ms.length) → CellsAt W' ba (oa + k * 4) (bopCells ms[k]) := fun W' kk k hk j u hu => (kk.cell (p := ⟨ba, oa + k * 4 + j, none⟩) hba (by simp)).trans (hc k hk j u hu)
      have HOP : Hid (∀ W', Keep [] wr W' → CellsAt W' ba (oa + i * 4) (bopCells ms[i])) := fun W' kk => hcs W' (HL.out.keep.then kk) i hlt
      have HOA : Hid (BOpAt w ms[i]) := HMW.out.each _ (List.getElem_mem hlt)
      have HOL : Hid (ms[i].1.l.length ≤ 40) := HG2.out _ (List.getElem_mem hlt)
      have HOFF : Hid (0 < ms[i].1.l.length → Off [gb, g, b1, b2] ms[i].2.a) := fun h0 ad ha hmem => by
        obtain ⟨b', o', e', hb', _⟩ := HOA.out.words.addr h0
        rw [e'] at ha
        cases ha
        have := HL.out.lo
        simp only [List.mem_cons, List.not_mem_nil, or_false] at hmem
        omega
      generalize ms[i] = m at *
      obtain ⟨o, v⟩ := m
      dsimp only at HOL HOFF
      have hi0 : (0 : Int) ≤ (i : Int) := by omega
      have hi1 : (i : Int) < (ms.length : Int) := by omega
      clear hcs hc HL0
      obtain ⟨m1, m2, m3⟩ := kindM_facts o.kind
      have o0 : wr.cell? ⟨ba, oa + i * 4, none⟩ = some (.int .i64 o.kind) := HOP.out wr (Keep.refl _ _) 0 _ rfl
      go_upto_region 12 with fail
      clear o0
      go_wp2_with (refine stop_load 76 (.tmp 3) rfl ?_)
      constructor
      refine wpList_load_agg rfl 76 (.tmp 3) rfl rfl (cs := benchV g gb x A1 A2 c1 c2 Ap cp) agg_ben HL.out.box.cellsAt ?_
      go_wp2_with (refine stop_store 76 (.tmp 10) (.tmp 35) rfl ?_)
      constructor
      refine wpList_store_all rfl 76 (.tmp 10) (.tmp 35) rfl rfl rfl (t := 76) (cs := zeroBen) (vs := benchV g gb x A1 A2 c1 c2 Ap cp) agg_ben.2 (Blk.new _ _ _) (benchV_one _ _ _ _ _ _ _ _ _) rfl ?_
      intro wq dq kq
      have KQ : Keep [] wr wq := ((Keep.refl [] wr).alloc _).trans kq (fun y hy hl => by simp only [List.mem_cons, List.not_mem_nil, or_false] at hy; omega)
      have HQ := Lib.hid (HL.out.keep0 KQ)
      have HLAq := Lib.hid (HLA.out.keep0 KQ)
      have HNWq := Lib.hid (HNW.out.keep0 KQ)
      have hlt0 := HL.out.lt
      have HBW : Hid (∀ W', Keep [gb, g, b1, b2, bx] wq W' → Blk W' wr.heap.size 76 (benchV g gb x A1 A2 c1 c2 Ap cp).toArray) := fun W' kk => dq.keep kk (fun hm => by have := hlt0 _ hm; omega)
      have HOPq : Hid (∀ W', Keep [] wq W' → CellsAt W' ba (oa + i * 4) (bopCells (o, v))) := fun W' kk => HOP.out W' (KQ.then kk)
      have HWI1 := Lib.hid (one_w HL.out.same HL.out.big HWI.out o HOA.out.lt)
      have HPUT := Lib.hid HQ.out.putO
      have HPL : Hid (x.put.length ≤ 4096) := by show _ ≤ _; have := HL.out.same.len; have := HL.out.big.room; omega
      generalize wr.heap.size = bw at *
      clear dq kq KQ hlt0 HLA HNW HWI HL HOP
      go_upto_region 13 with fail
      simp only [Act.put]
      go_cut [4] from 37 to 88 (fun v4 wx => v4 = .bool true ∧ LawAt bs w wx bx g gb b1 b2 (oneD x o) ∧ Keep [gb, g, b1, b2, bx] wq wx)
      case first =>
        refine ap_begin 5 (Keep [] wq) rfl (Keep.refl _ _).drew (fun hS hPan => ?_) (fun _ _ d _ _ h => by cases d <;> exact h)
        refine ap_agg 0 76 (.tmp 3) (benchV g gb x A1 A2 c1 c2 Ap cp) rfl (by kernel_rfl) (by kernel_rfl) (by kernel_rfl) (by kernel_rfl) (by rfl) hPan rfl rfl agg_ben (fun W' kk => (HQ.out.box.keep0 kk).cellsAt) hS ?_
        (simp only [Act.put, List.setIfInBounds_toArray, List.set_cons_zero, List.set_cons_succ])
        (refine ap_val (v := ?_) 1 rfl (by kernel_rfl) (by kernel_rfl) (by kernel_rfl) (by kernel_rfl) (by rfl) hPan ?_ hS ?_; rotate_left; (intro w' hSw; go_simp; try with_reducible rfl); simp only [Act.put, List.setIfInBounds_toArray, List.set_cons_zero, List.set_cons_succ])
        (refine ap_val (v := ?_) 2 rfl (by kernel_rfl) (by kernel_rfl) (by kernel_rfl) (by kernel_rfl) (by rfl) hPan ?_ hS ?_; rotate_left; (intro w' hSw; go_simp; try with_reducible rfl); simp only [Act.put, List.setIfInBounds_toArray, List.set_cons_zero, List.set_cons_succ])
        (refine ap_val (v := ?_) 3 rfl (by kernel_rfl) (by kernel_rfl) (by kernel_rfl) (by kernel_rfl) (by rfl) hPan ?_ hS ?_; rotate_left; (intro w' hSw; go_simp; try with_reducible rfl); simp only [Act.put, List.setIfInBounds_toArray, List.set_cons_zero, List.set_cons_succ])
        refine ap_agg 4 80 (.tmp 40) (bopCells (o, v)) rfl (by kernel_rfl) (by kernel_rfl) (by kernel_rfl) (by kernel_rfl) (by rfl) hPan rfl rfl agg_bop (fun W' kk => HOPq.out W' kk) hS ?_
        (simp only [Act.put, List.setIfInBounds_toArray, List.set_cons_zero, List.set_cons_succ])
        have hLd := HQ.out.keep0 hS
        have hltd := hLd.lt
        generalize wq.drew = wd at *
        refine ap_one 5 (by kernel_rfl) ?_
        refine op_call (f := 36) (vs := #[.agg (benchV g gb x A1 A2 c1 c2 Ap cp).toArray, .agg (bopCells (o, v)).toArray]) 5 rfl (by kernel_rfl) rfl (by simp only [List.map_toArray, List.map_cons, List.map_nil]; rfl) Try.func36 (by kernel_rfl) (by kernel_rfl)
          (one_any bs [gb, g, b1, b2, bx] g gb b1 b2 x b o v A1 A2 c1 c2 Ap cp wd hLd.dev hLd.bank hLd.ben hLd.same hLd.big (HOA.out.keep0 (HQ.out.keep.then hS)) hLd.bs_ HOFF.out HOL.out (fun y hy => by simp only [List.mem_cons, List.not_mem_nil, or_false] at hy ⊢; omega) hltd) ?_
        rintro e w4 ⟨b', A1', A2', c1', c2', Ap', cp', rfl, hd4, hb4, hx4, hs4, hB4, k4⟩
        have HR4 : Hid (DevAt w4 g b1 b2 (oneD x o).d ∧ BankAt w4 gb g b' ∧ BenAt bs [gb, g, b1, b2, bx] w4 A1' A2' c1' c2' Ap' (oneD x o) ∧ SameB (oneD x o) b' ∧ BigB (oneD x o).d ∧ Keep [gb, g, b1, b2] wq w4) := ⟨hd4, hb4, hx4, hs4, hB4, Keep.trans (hS.mono (by simp)) k4 (fun y hy _ => hy)⟩
        have hbx4 := hLd.box.keep k4 (by have := hLd.ne; simp only [List.mem_cons, List.not_mem_nil, or_false]; omega)
        generalize oneD x o = x' at *
        clear hLd hltd hd4 hb4 hx4 hs4 hB4 k4
        refine ⟨_, rfl, fun h => (by cases h), ?_⟩
        (simp only [Act.put, List.setIfInBounds_toArray, List.set_cons_zero, List.set_cons_succ])
        refine ap_one 6 (by kernel_rfl) ?_
        refine op_run (v := (.tuple #[.agg (benchV g gb x' A1' A2' c1' c2' Ap' cp').toArray, .bool true])) (w' := w4) 6 rfl (by kernel_rfl) (by go_simp) ?_
        refine ⟨fun h => (by cases h), ?_⟩
        (simp only [Act.put, List.setIfInBounds_toArray, List.set_cons_zero, List.set_cons_succ])
        refine ap_twoJ 7 8 (by kernel_rfl) ?x1 ?y1
        case x1 =>
          refine op_run (v := (.agg (benchV g gb x' A1' A2' c1' c2' Ap' cp').toArray)) (w' := w4) 7 rfl (by kernel_rfl) (by go_simp) ?_
          refine ⟨fun h => (by cases h), ?_⟩
          (simp only [Act.put, List.setIfInBounds_toArray, List.set_cons_zero, List.set_cons_succ])
          refine ap_twoJ 8 9 (by kernel_rfl) ?x2 ?y2
          case x2 =>
            refine op_run (v := .bool true) (w' := w4) 8 rfl (by kernel_rfl) (by go_simp) ?_
            refine ⟨fun h => (by cases h), ?_⟩
            (simp only [Act.put, List.setIfInBounds_toArray, List.set_cons_zero, List.set_cons_succ])
            refine ap_one 9 (by kernel_rfl) ?_
            refine op_store_all (t := 76) (cs := (benchV g gb x A1 A2 c1 c2 Ap cp).toArray) (vs := benchV g gb x' A1' A2' c1' c2' Ap' cp') 9 rfl (by kernel_rfl) rfl rfl rfl agg_ben.2 hbx4 (benchV_one _ _ _ _ _ _ _ _ _) rfl ?_
            intro w9 d9 k9
            refine ⟨fun h => (by cases h), ?_⟩
            (simp only [Act.put, List.setIfInBounds_toArray, List.set_cons_zero, List.set_cons_succ])
            refine ap_one 10 (by kernel_rfl) ?_
            refine op_run (v := .bool true) (w' := w9) 10 rfl (by kernel_rfl) (by go_simp) ?_
            refine ⟨fun h => (by cases h), ap_done (by kernel_rfl) ?_ _⟩
            (simp only [Act.put, List.setIfInBounds_toArray, List.set_cons_zero, List.set_cons_succ])
            obtain ⟨hd4, hb4, hx4, hs4, hB4, k4⟩ := HR4.out
            have HL9 : Hid (LawAt bs w w9 bx g gb b1 b2 x') := ⟨b', A1', A2', c1', c2', Ap', cp', HQ.out.step hd4 hb4 hx4 hs4 hB4 k4 d9 k9⟩
            have HK9 : Hid (Keep [gb, g, b1, b2, bx] wq w9) := Keep.trans (k4.mono (G := [gb, g, b1, b2, bx]) (fun y hy _ => by simp only [List.mem_cons, List.not_mem_nil, or_false] at hy ⊢; omega)) k9 (fun y hy _ => by simp only [List.mem_cons, List.not_mem_nil, or_false] at hy ⊢; omega)
            clear hd4 hb4 hx4 hs4 hB4 k4 d9 k9 hbx4 HR4 hS hPan
            go_wp2_with fail
            go_meet
            exact ⟨rfl, HL9.out, HK9.out⟩
          case y2 =>
            refine op_store_all (t := 76) (cs := (benchV g gb x A1 A2 c1 c2 Ap cp).toArray) (vs := benchV g gb x' A1' A2' c1' c2' Ap' cp') 9 rfl (by kernel_rfl) rfl rfl rfl agg_ben.2 hbx4 (benchV_one _ _ _ _ _ _ _ _ _) rfl ?_
            intro w9 d9 k9
            refine ⟨fun h => (by cases h), ?_⟩
            (simp only [Act.put, List.setIfInBounds_toArray, List.set_cons_zero, List.set_cons_succ])
            refine ap_one 8 (by kernel_rfl) ?_
            refine op_run (v := .bool true) (w' := w9) 8 rfl (by kernel_rfl) (by go_simp) ?_
            refine ⟨fun h => (by cases h), ?_⟩
            (simp only [Act.put, List.setIfInBounds_toArray, List.set_cons_zero, List.set_cons_succ])
            refine ap_one 10 (by kernel_rfl) ?_
            refine op_run (v := .bool true) (w' := w9) 10 rfl (by kernel_rfl) (by go_simp) ?_
            refine ⟨fun h => (by cases h), ap_done (by kernel_rfl) ?_ _⟩
            (simp only [Act.put, List.setIfInBounds_toArray, List.set_cons_zero, List.set_cons_succ])
            obtain ⟨hd4, hb4, hx4, hs4, hB4, k4⟩ := HR4.out
            have HL9 : Hid (LawAt bs w w9 bx g gb b1 b2 x') := ⟨b', A1', A2', c1', c2', Ap', cp', HQ.out.step hd4 hb4 hx4 hs4 hB4 k4 d9 k9⟩
            have HK9 : Hid (Keep [gb, g, b1, b2, bx] wq w9) := Keep.trans (k4.mono (G := [gb, g, b1, b2, bx]) (fun y hy _ => by simp only [List.mem_cons, List.not_mem_nil, or_false] at hy ⊢; omega)) k9 (fun y hy _ => by simp only [List.mem_cons, List.not_mem_nil, or_false] at hy ⊢; omega)
            clear hd4 hb4 hx4 hs4 hB4 k4 d9 k9 hbx4 HR4 hS hPan
            go_wp2_with fail
            go_meet
            exact ⟨rfl, HL9.out, HK9.out⟩
        case y1 =>
          refine op_run (v := .bool true) (w' := w4) 8 rfl (by kernel_rfl) (by go_simp) ?_
          refine ⟨fun h => (by cases h), ?_⟩
          (simp only [Act.put, List.setIfInBounds_toArray, List.set_cons_zero, List.set_cons_succ])
          refine ap_one 7 (by kernel_rfl) ?_
          refine op_run (v := (.agg (benchV g gb x' A1' A2' c1' c2' Ap' cp').toArray)) (w' := w4) 7 rfl (by kernel_rfl) (by go_simp) ?_
          refine ⟨fun h => (by cases h), ?_⟩
          (simp only [Act.put, List.setIfInBounds_toArray, List.set_cons_zero, List.set_cons_succ])
          refine ap_one 9 (by kernel_rfl) ?_
          refine op_store_all (t := 76) (cs := (benchV g gb x A1 A2 c1 c2 Ap cp).toArray) (vs := benchV g gb x' A1' A2' c1' c2' Ap' cp') 9 rfl (by kernel_rfl) rfl rfl rfl agg_ben.2 hbx4 (benchV_one _ _ _ _ _ _ _ _ _) rfl ?_
          intro w9 d9 k9
          refine ⟨fun h => (by cases h), ?_⟩
          (simp only [Act.put, List.setIfInBounds_toArray, List.set_cons_zero, List.set_cons_succ])
          refine ap_one 10 (by kernel_rfl) ?_
          refine op_run (v := .bool true) (w' := w9) 10 rfl (by kernel_rfl) (by go_simp) ?_
          refine ⟨fun h => (by cases h), ap_done (by kernel_rfl) ?_ _⟩
          (simp only [Act.put, List.setIfInBounds_toArray, List.set_cons_zero, List.set_cons_succ])
          obtain ⟨hd4, hb4, hx4, hs4, hB4, k4⟩ := HR4.out
          have HL9 : Hid (LawAt bs w w9 bx g gb b1 b2 x') := ⟨b', A1', A2', c1', c2', Ap', cp', HQ.out.step hd4 hb4 hx4 hs4 hB4 k4 d9 k9⟩
          have HK9 : Hid (Keep [gb, g, b1, b2, bx] wq w9) := Keep.trans (k4.mono (G := [gb, g, b1, b2, bx]) (fun y hy _ => by simp only [List.mem_cons, List.not_mem_nil, or_false] at hy ⊢; omega)) k9 (fun y hy _ => by simp only [List.mem_cons, List.not_mem_nil, or_false] at hy ⊢; omega)
          clear hd4 hb4 hx4 hs4 hB4 k4 d9 k9 hbx4 HR4 hS hPan
          go_wp2_with fail
          go_meet
          exact ⟨rfl, HL9.out, HK9.out⟩

      case rest =>
        obtain ⟨rfl, hl9, hk9⟩ := hcut
        have HBC := Lib.hid (HBW.out wc hk9)
        have HLA := Lib.hid (HLAq.out.keep hk9)
        have HNW0 := Lib.hid (HNWq.out.keep hk9)
        have HPUT9 := Lib.hid (HPUT.out.keep hk9)
        generalize oneD x o = x' at *
        obtain ⟨b', A1', A2', c1', c2', Ap', cp', hL9⟩ := hl9
        have HL7 := Lib.hid hL9
        clear hL9 hk9 HQ HOPq HOA HOL HOFF HBW HLAq HNWq HPUT
        have e12 : wc.cell? ⟨bw, 12, none⟩ = some (.bool x.opn) := (HBC.out.cell 12).trans (bench_opn _ _ _ _ _ _ _ _ _)
        have e13 : wc.cell? ⟨bw, 13, none⟩ = some (.slice Ap x.put.length cp) := (HBC.out.cell 13).trans (bench_put _ _ _ _ _ _ _ _ _)
        generalize hkk : kindM o.kind = kk at *
        go_upto_region 16 with fail
        generalize hww : wc = w7 at *
        go_cut [58] from 47 to 88 (fun v58 wx => v58 = .bool (decide (kk = 3 ∧ x.opn = true ∧ 0 < x.put.length)) ∧ wx = w7)
        case first =>
          have hk0 : 0 ≤ kk ∧ kk < 8 := by omega
          clear HL7 HLA HNW0 HPUT9 HBC HWI1 hkk hww m3
          by_cases hk3 : kk = 3
          · subst hk3
            cases hox : x.opn with
            | false =>
              rw [hox] at e12
              go_wp2_with fail
              go_meet
              exact ⟨by rw [decide_eq_false (fun e => by rw [hox] at e; exact absurd e.2.1 (by decide))], rfl⟩
            | true =>
              rw [hox] at e12
              by_cases hpl : 0 < x.put.length
              · have q0 : decide ((0 : Int) < (x.put.length : Int)) = true := decide_eq_true (by omega)
                have q1 : (0 < x.put.length) = True := eq_true hpl
                go_wp2_with fail
                go_meet
                exact ⟨by rw [decide_eq_true (by first | exact ⟨rfl, hox, hpl⟩ | exact ⟨trivial, hox, hpl⟩ | exact ⟨trivial, hox, trivial⟩ | simp [hox, hpl])], rfl⟩
              · have q0 : decide ((0 : Int) < (x.put.length : Int)) = false := decide_eq_false (by omega)
                have q1 : (0 < x.put.length) = False := eq_false hpl
                go_wp2_with fail
                go_meet
                exact ⟨by rw [decide_eq_false (fun e => hpl e.2.2)], rfl⟩
          · have q0 : (kk == 3) = false := beq_eq_false_iff_ne.2 hk3
            have q1 : (kk = 3) = False := eq_false hk3
            go_wp2_with fail
            go_meet
            exact ⟨by rw [decide_eq_false (fun e => hk3 e.1)], rfl⟩
        case rest =>
          obtain ⟨rfl, hwx⟩ := hcut
          rw [hwx]
          clear hwx
          by_cases hC : kk = 3 ∧ x.opn = true ∧ 0 < x.put.length
          · have hnb : nowB x o now = x.put := by unfold nowB; rw [hkk, if_pos hC]
            rw [hnb] at HWI1
            rw [decide_eq_true hC]
            have HNW := HPUT9
            have HWI := HWI1
            clear HNL HWI1
            have HNL := HPL
            have c1 : w7.cell? ⟨bx, 1, none⟩ = some (.pointer (some ⟨gb, 0, none⟩)) := (HL7.out.box.cell 1).trans (bench_gb _ _ _ _ _ _ _ _ _)
            have HIM : Hid (Calls Try.prog 29 #[.pointer (some ⟨gb, 0, none⟩)] w7 (RetImO [gb, g, b1, b2, bx] w7 (imgD x'.d))) := by
              have := bimage_any gb g b1 b2 x'.d b' w7 HL7.out.bank HL7.out.dev HL7.out.big.ok (HL7.out.same.bk HL7.out.big)
              rw [same_image HL7.out.same HL7.out.big] at this
              exact this.mono (fun e w' h => retImO h HL7.out.lt)
            have hil := img_len HL7.out.big
            have HNOW : Hid (RdO [gb, g, b1, b2, bx] w7 Ap x.put) := HNW.out
            go_wp2_with fail
            refine HIM.out.mono ?_
            intro e w8 h8
            clear HIM c1
            cases him : imgD x'.d with
            | none =>
              rw [him] at h8
              obtain ⟨rfl, k8⟩ := h8
              have HL8 := Lib.hid (HL7.out.keep0 k8)
              have HW8 := Lib.hid (seen_no HWI.out him)
              have HN8 := Lib.hid (HNOW.out.keep0 k8)
              have HA8 := Lib.hid (HLA.out.keep0 k8)
              clear k8 HL7 HNOW HLA HWI
              have c7 : w8.cell? ⟨bx, 7, none⟩ = some (.bool (!x'.d.on)) := (HL8.out.box.cell 7).trans (bench_off _ _ _ _ _ _ _ _ _)
              generalize (!x'.d.on) = ofb at *
              cases sm <;> (go_wp2_with fail; go_roundw; (case rel => exact ⟨i + 1, x', last, x.put, _, Al, cl, Ap, cp, by omega, by go_num, rfl, rfl, rfl, HW8.out, HA8.out, HN8.out, HLL.out, HNL.out, b', A1', A2', c1', c2', Ap', cp', HL8.out⟩); (case measure => simp [intOf]; omega))
            | some a =>
              rw [him] at h8 hil
              obtain ⟨Aa, ca, rfl, hra, k8⟩ := h8
              have HL8 := Lib.hid (HL7.out.keep0 k8)
              obtain ⟨hsee, hwi⟩ := seen_yes HWI.out him
              have HWI8 := Lib.hid hwi
              have HN8 := Lib.hid (HNOW.out.keep0 k8)
              have HA8 := Lib.hid (HLA.out.keep0 k8)
              have HRA := Lib.hid hra
              have hal : a.length ≤ 4096 := hil
              have HRL : Hid (∀ W', Keep [] w8 W' → Calls Try.prog 37 #[.slice Aa a.length ca, .slice Al last.length cl] W' fun e w' => e = .returned (.bool (decide (a = last))) ∧ Keep [] W' w') := fun W' kk => brow_any Aa Al ca cl a last W' (HRA.out.rd.keep0 kk) (HA8.out.rd.keep0 kk) (by omega) (by have := HLL.out; omega)
              have HRN : Hid (∀ W', Keep [] w8 W' → Calls Try.prog 37 #[.slice Aa a.length ca, .slice Ap x.put.length cp] W' fun e w' => e = .returned (.bool (decide (a = x.put))) ∧ Keep [] W' w') := fun W' kk => brow_any Aa Ap ca cp a x.put W' (HRA.out.rd.keep0 kk) (HN8.out.rd.keep0 kk) (by omega) (by have := HNL.out; omega)
              clear k8 HL7 HNOW HLA HWI hwi hra hil him
              have HAL8 := Lib.hid hal
              clear hal
              cases sm with
              | false =>
                have hn : a = x.put := by rcases hsee with h | h; (cases h.1); exact h
                have hd : decide (a = x.put) = true := decide_eq_true hn
                have HDN := Lib.hid hd
                clear hsee hn hd HRL
                go_wp2_with fail
                refine (HRN.out w8 (Keep.refl _ _)).mono ?_
                rintro e w9 ⟨rfl, k9⟩
                rw [HDN.out]
                have HK9 := Lib.hid k9
                clear k9 HRN HDN
                go_wp2_with fail
                go_roundw
                case rel => exact ⟨i + 1, x', a, x.put, true, Aa, ca, Ap, cp, by omega, by go_num, rfl, rfl, rfl, HWI8.out, HRA.out.keep0 HK9.out, HN8.out.keep0 HK9.out, HAL8.out, HNL.out, b', A1', A2', c1', c2', Ap', cp', HL8.out.keep0 HK9.out⟩
                case measure => simp [intOf]; omega
              | true =>
                by_cases hal2 : a = last
                · have hd : decide (a = last) = true := decide_eq_true hal2
                  have HDN := Lib.hid hd
                  clear hsee hal2 hd HRN
                  go_wp2_with fail
                  refine (HRL.out w8 (Keep.refl _ _)).mono ?_
                  rintro e w9 ⟨rfl, k9⟩
                  rw [HDN.out]
                  have HK9 := Lib.hid k9
                  clear k9 HRL HDN
                  go_wp2_with fail
                  go_roundw
                  case rel => exact ⟨i + 1, x', a, x.put, true, Aa, ca, Ap, cp, by omega, by go_num, rfl, rfl, rfl, HWI8.out, HRA.out.keep0 HK9.out, HN8.out.keep0 HK9.out, HAL8.out, HNL.out, b', A1', A2', c1', c2', Ap', cp', HL8.out.keep0 HK9.out⟩
                  case measure => simp [intOf]; omega
                · have hd : decide (a = last) = false := decide_eq_false hal2
                  have hn : a = x.put := by rcases hsee with h | h; exact absurd h.2 hal2; exact h
                  have hd2 : decide (a = x.put) = true := decide_eq_true hn
                  have HDN := Lib.hid hd
                  have HDN2 := Lib.hid hd2
                  clear hsee hal2 hd hd2 hn
                  go_wp2_with fail
                  refine (HRL.out w8 (Keep.refl _ _)).mono ?_
                  rintro e w9 ⟨rfl, k9⟩
                  rw [HDN.out]
                  have HK9 := Lib.hid k9
                  clear k9 HRL HDN
                  go_wp2_with fail
                  refine (HRN.out w9 HK9.out).mono ?_
                  rintro e w10 ⟨rfl, k10⟩
                  rw [HDN2.out]
                  have HK10 := Lib.hid (HK9.out.then k10)
                  clear k10 HRN HDN2 HK9
                  go_wp2_with fail
                  go_roundw
                  case rel => exact ⟨i + 1, x', a, x.put, true, Aa, ca, Ap, cp, by omega, by go_num, rfl, rfl, rfl, HWI8.out, HRA.out.keep0 HK10.out, HN8.out.keep0 HK10.out, HAL8.out, HNL.out, b', A1', A2', c1', c2', Ap', cp', HL8.out.keep0 HK10.out⟩
                  case measure => simp [intOf]; omega

          · have hnb : nowB x o now = now := by unfold nowB; rw [hkk, if_neg hC]
            rw [hnb] at HWI1
            rw [decide_eq_false hC]
            have HNW := HNW0
            have HWI := HWI1
            clear HWI1
            have c1 : w7.cell? ⟨bx, 1, none⟩ = some (.pointer (some ⟨gb, 0, none⟩)) := (HL7.out.box.cell 1).trans (bench_gb _ _ _ _ _ _ _ _ _)
            have HIM : Hid (Calls Try.prog 29 #[.pointer (some ⟨gb, 0, none⟩)] w7 (RetImO [gb, g, b1, b2, bx] w7 (imgD x'.d))) := by
              have := bimage_any gb g b1 b2 x'.d b' w7 HL7.out.bank HL7.out.dev HL7.out.big.ok (HL7.out.same.bk HL7.out.big)
              rw [same_image HL7.out.same HL7.out.big] at this
              exact this.mono (fun e w' h => retImO h HL7.out.lt)
            have hil := img_len HL7.out.big
            have HNOW : Hid (RdO [gb, g, b1, b2, bx] w7 An now) := HNW.out
            go_wp2_with fail
            refine HIM.out.mono ?_
            intro e w8 h8
            clear HIM c1
            cases him : imgD x'.d with
            | none =>
              rw [him] at h8
              obtain ⟨rfl, k8⟩ := h8
              have HL8 := Lib.hid (HL7.out.keep0 k8)
              have HW8 := Lib.hid (seen_no HWI.out him)
              have HN8 := Lib.hid (HNOW.out.keep0 k8)
              have HA8 := Lib.hid (HLA.out.keep0 k8)
              clear k8 HL7 HNOW HLA HWI
              have c7 : w8.cell? ⟨bx, 7, none⟩ = some (.bool (!x'.d.on)) := (HL8.out.box.cell 7).trans (bench_off _ _ _ _ _ _ _ _ _)
              generalize (!x'.d.on) = ofb at *
              cases sm <;> (go_wp2_with fail; go_roundw; (case rel => exact ⟨i + 1, x', last, now, _, Al, cl, An, cn, by omega, by go_num, rfl, rfl, rfl, HW8.out, HA8.out, HN8.out, HLL.out, HNL.out, b', A1', A2', c1', c2', Ap', cp', HL8.out⟩); (case measure => simp [intOf]; omega))
            | some a =>
              rw [him] at h8 hil
              obtain ⟨Aa, ca, rfl, hra, k8⟩ := h8
              have HL8 := Lib.hid (HL7.out.keep0 k8)
              obtain ⟨hsee, hwi⟩ := seen_yes HWI.out him
              have HWI8 := Lib.hid hwi
              have HN8 := Lib.hid (HNOW.out.keep0 k8)
              have HA8 := Lib.hid (HLA.out.keep0 k8)
              have HRA := Lib.hid hra
              have hal : a.length ≤ 4096 := hil
              have HRL : Hid (∀ W', Keep [] w8 W' → Calls Try.prog 37 #[.slice Aa a.length ca, .slice Al last.length cl] W' fun e w' => e = .returned (.bool (decide (a = last))) ∧ Keep [] W' w') := fun W' kk => brow_any Aa Al ca cl a last W' (HRA.out.rd.keep0 kk) (HA8.out.rd.keep0 kk) (by omega) (by have := HLL.out; omega)
              have HRN : Hid (∀ W', Keep [] w8 W' → Calls Try.prog 37 #[.slice Aa a.length ca, .slice An now.length cn] W' fun e w' => e = .returned (.bool (decide (a = now))) ∧ Keep [] W' w') := fun W' kk => brow_any Aa An ca cn a now W' (HRA.out.rd.keep0 kk) (HN8.out.rd.keep0 kk) (by omega) (by have := HNL.out; omega)
              clear k8 HL7 HNOW HLA HWI hwi hra hil him
              have HAL8 := Lib.hid hal
              clear hal
              cases sm with
              | false =>
                have hn : a = now := by rcases hsee with h | h; (cases h.1); exact h
                have hd : decide (a = now) = true := decide_eq_true hn
                have HDN := Lib.hid hd
                clear hsee hn hd HRL
                go_wp2_with fail
                refine (HRN.out w8 (Keep.refl _ _)).mono ?_
                rintro e w9 ⟨rfl, k9⟩
                rw [HDN.out]
                have HK9 := Lib.hid k9
                clear k9 HRN HDN
                go_wp2_with fail
                go_roundw
                case rel => exact ⟨i + 1, x', a, now, true, Aa, ca, An, cn, by omega, by go_num, rfl, rfl, rfl, HWI8.out, HRA.out.keep0 HK9.out, HN8.out.keep0 HK9.out, HAL8.out, HNL.out, b', A1', A2', c1', c2', Ap', cp', HL8.out.keep0 HK9.out⟩
                case measure => simp [intOf]; omega
              | true =>
                by_cases hal2 : a = last
                · have hd : decide (a = last) = true := decide_eq_true hal2
                  have HDN := Lib.hid hd
                  clear hsee hal2 hd HRN
                  go_wp2_with fail
                  refine (HRL.out w8 (Keep.refl _ _)).mono ?_
                  rintro e w9 ⟨rfl, k9⟩
                  rw [HDN.out]
                  have HK9 := Lib.hid k9
                  clear k9 HRL HDN
                  go_wp2_with fail
                  go_roundw
                  case rel => exact ⟨i + 1, x', a, now, true, Aa, ca, An, cn, by omega, by go_num, rfl, rfl, rfl, HWI8.out, HRA.out.keep0 HK9.out, HN8.out.keep0 HK9.out, HAL8.out, HNL.out, b', A1', A2', c1', c2', Ap', cp', HL8.out.keep0 HK9.out⟩
                  case measure => simp [intOf]; omega
                · have hd : decide (a = last) = false := decide_eq_false hal2
                  have hn : a = now := by rcases hsee with h | h; exact absurd h.2 hal2; exact h
                  have hd2 : decide (a = now) = true := decide_eq_true hn
                  have HDN := Lib.hid hd
                  have HDN2 := Lib.hid hd2
                  clear hsee hal2 hd hd2 hn
                  go_wp2_with fail
                  refine (HRL.out w8 (Keep.refl _ _)).mono ?_
                  rintro e w9 ⟨rfl, k9⟩
                  rw [HDN.out]
                  have HK9 := Lib.hid k9
                  clear k9 HRL HDN
                  go_wp2_with fail
                  refine (HRN.out w9 HK9.out).mono ?_
                  rintro e w10 ⟨rfl, k10⟩
                  rw [HDN2.out]
                  have HK10 := Lib.hid (HK9.out.then k10)
                  clear k10 HRN HDN2 HK9
                  go_wp2_with fail
                  go_roundw
                  case rel => exact ⟨i + 1, x', a, now, true, Aa, ca, An, cn, by omega, by go_num, rfl, rfl, rfl, HWI8.out, HRA.out.keep0 HK10.out, HN8.out.keep0 HK10.out, HAL8.out, HNL.out, b', A1', A2', c1', c2', Ap', cp', HL8.out.keep0 HK10.out⟩
                  case measure => simp [intOf]; omega
    · obtain rfl : i = ms.length := by omega
      have HKF := Lib.hid HL.out.keep
      clear HL HL0 HWI HLA HNW
      go_wp2_with fail
      refine (HAL.out wr).mono ?_
      rintro e w5 ⟨rfl, k5⟩
      go_wp2_with fail
      go_ret
      exact ⟨rfl, HKF.out.then k5⟩
end Go.Proofs.Yteanpgkonhdbpaa
