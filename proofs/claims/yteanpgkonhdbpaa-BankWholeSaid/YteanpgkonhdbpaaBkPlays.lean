/- BankPlays, walked: each call answers, each word is, and the image is, as the document says. No condition. -/
import Derived.Test.YteanpgkonhdbpaaBkBeg
import Derived.Test.YteanpgkonhdbpaaBkAlive
import Derived.Deep.DeepCutAuto
import Derived.Deep.CutBlock
namespace Go.Proofs.Yteanpgkonhdbpaa
open Go.RowKit

theorem agg_bop : AggOf Try.prog 80 4 := ⟨by kernel_rfl, by kernel_rfl⟩
/-- Both banks in memory, with the law's box. -/
structure LawB (bs : Nat) (w wr : World) (bx g gb b1 b2 : Nat) (x : BenS) (b : BkS) (A1 A2 : Option Addr) (c1 c2 : Nat) (Ap : Option Addr) (cp : Nat) : Prop where
  dev : DevAt wr g b1 b2 x.d
  bank : BankAt wr gb g b
  ben : BenAt bs [gb, g, b1, b2, bx] wr A1 A2 c1 c2 Ap x
  box : Blk wr bx 76 (benchV g gb x A1 A2 c1 c2 Ap cp).toArray
  same : SameB x b
  big : BigB x.d
  lo : w.heap.size ≤ bx ∧ w.heap.size ≤ g ∧ w.heap.size ≤ gb ∧ w.heap.size ≤ b1 ∧ w.heap.size ≤ b2
  bs_ : bs ≤ wr.heap.size
  keep : Keep [] w wr
section
variable {bs : Nat} {w wr w' : World} {bx g gb b1 b2 : Nat} {x : BenS} {b : BkS} {A1 A2 : Option Addr} {c1 c2 : Nat} {Ap : Option Addr} {cp : Nat}
theorem LawB.keep0 (h : LawB bs w wr bx g gb b1 b2 x b A1 A2 c1 c2 Ap cp) (k : Keep [] wr w') : LawB bs w w' bx g gb b1 b2 x b A1 A2 c1 c2 Ap cp :=
  ⟨h.dev.keep0 k, h.bank.keep0 k, h.ben.keep0 k, h.box.keep0 k, h.same, h.big, h.lo, Nat.le_trans h.bs_ k.size, h.keep.then k⟩
theorem LawB.lt (h : LawB bs w wr bx g gb b1 b2 x b A1 A2 c1 c2 Ap cp) : ∀ y ∈ [gb, g, b1, b2, bx], y < wr.heap.size := fun y hy => by
  have h1 := Blk.lt h.bank
  have h2 := h.dev.dev.lt
  have h3 := h.dev.bits.lt
  have h4 := h.dev.worn.lt
  have h5 := h.box.lt
  simp only [List.mem_cons, List.not_mem_nil, or_false] at hy
  omega
theorem LawB.ne (h : LawB bs w wr bx g gb b1 b2 x b A1 A2 c1 c2 Ap cp) : bx ≠ gb ∧ bx ≠ g ∧ bx ≠ b1 ∧ bx ≠ b2 := ⟨h.box.ne_ h.bank (by decide), h.box.ne_ h.dev.dev (by decide), h.box.ne_ h.dev.bits (by decide), h.box.ne_ h.dev.worn (by decide)⟩
theorem LawB.step {w4 w9 : World} {x' : BenS} {b' : BkS} {A1' A2' : Option Addr} {c1' c2' : Nat} {Ap' : Option Addr} {cp' : Nat} (h : LawB bs w wr bx g gb b1 b2 x b A1 A2 c1 c2 Ap cp) (hd : DevAt w4 g b1 b2 x'.d) (hb : BankAt w4 gb g b') (hx : BenAt bs [gb, g, b1, b2, bx] w4 A1' A2' c1' c2' Ap' x')
    (hs : SameB x' b') (hB : BigB x'.d) (k4 : Keep [gb, g, b1, b2] wr w4) (d9 : Blk w9 bx 76 (benchV g gb x' A1' A2' c1' c2' Ap' cp').toArray) (k9 : Keep [bx] w4 w9) : LawB bs w w9 bx g gb b1 b2 x' b' A1' A2' c1' c2' Ap' cp' := by
  obtain ⟨n1, n2, n3, n4⟩ := h.ne
  obtain ⟨l1, l2, l3, l4, l5⟩ := h.lo
  refine ⟨hd.keep k9 (by simp [Ne.symm n2]) (by simp [Ne.symm n3]) (by simp [Ne.symm n4]), Blk.keep hb k9 (by simp [Ne.symm n1]), hx.keep (k9.mono (by simp)), d9, hs, hB, h.lo, Nat.le_trans h.bs_ (Nat.le_trans k4.size k9.size), ?_⟩
  exact (h.keep.trans k4 (fun y hy hl => by simp only [List.mem_cons, List.not_mem_nil, or_false] at hy; omega)).trans k9 (fun y hy hl => by simp only [List.mem_cons, List.not_mem_nil, or_false] at hy; omega)
end
def LawAt (bs : Nat) (w wr : World) (bx g gb b1 b2 : Nat) (x : BenS) : Prop := ∃ b A1 A2 c1 c2 Ap cp, LawB bs w wr bx g gb b1 b2 x b A1 A2 c1 c2 Ap cp
theorem LawAt.keep0 {bs : Nat} {w wr w' : World} {bx g gb b1 b2 : Nat} {x : BenS} (h : LawAt bs w wr bx g gb b1 b2 x) (k : Keep [] wr w') : LawAt bs w w' bx g gb b1 b2 x := by
  obtain ⟨b, A1, A2, c1, c2, Ap, cp, h⟩ := h
  exact ⟨b, A1, A2, c1, c2, Ap, cp, h.keep0 k⟩
theorem oneD_ns {x : BenS} {b : BkS} {o : BOp} (hs : SameB x b) (hB : BigB x.d) (hl : ∀ y ∈ o.l, y < 4294967296) : DimsJ x.d (oneD x o).d := by
  have hlen := hs.len
  have hrm := hB.room
  have hc : x.put.length < 4294967296 := by omega
  unfold oneD
  split
  · unfold beginD
    split
    · exact DimsJ.refl _
    · split
      · exact DimsJ.refl _
      · exact (begD_ok hB.ok).2
  · split
    · unfold commitD
      split
      · exact DimsJ.refl _
      · exact (progsD_ok _ 1 0 hB.ok (fun y hy => wordsH_lt (qB_lt _) hc (crcL_lt _) y (List.mem_of_mem_take hy))).2
    · split
      · unfold markD
        split
        · exact DimsJ.refl _
        · split
          · exact DimsJ.refl _
          · rw [if_neg (by decide)]
            exact (progsD_ok [1668247142, cplJ 1668247142] 1 8 hB.ok (fun y hy => by
              have h5 := cpl_lt 1668247142
              simp only [List.mem_cons, List.not_mem_nil, or_false] at hy
              rcases hy with rfl | rfl
              · decide
              · exact h5)).2
      · split
        · unfold markD
          split
          · exact DimsJ.refl _
          · split
            · exact DimsJ.refl _
            · rw [if_pos rfl]
              split
              · exact DimsJ.refl _
              · exact prog_dims _ _ _ _
        · split
          · exact ⟨rfl, rfl, rfl⟩
          · split
            · exact ⟨rfl, rfl, rfl⟩
            · unfold putD
              split
              · exact DimsJ.refl _
              · split
                · exact DimsJ.refl _
                · exact (progsD_ok o.l 2 x.put.length hB.ok hl).2
/-- The image, as words that lie somewhere, and whether there is one. -/
def RetIm (w : World) (r : Option (List Nat)) (e : Ending) (w' : World) : Prop :=
  ∃ A c, e = .returned (.tuple #[.slice A (r.getD []).length c, .bool r.isSome]) ∧ Reads w' 1 A (r.getD []).length (wordsV (r.getD [])) ∧ Keep [] w w'
theorem retIm_sl {w w' : World} {r : Option (List Nat)} {e : Ending} (h : RetSl w r e w') : RetIm w r e w' := by
  cases r with
  | none => exact ⟨none, 0, h.1, Reads.none_, h.2⟩
  | some l => exact h
theorem img_len {d : Dev} (h : BigB d) : ((imgD d).getD []).length ≤ 4096 := by
  unfold imgD
  split
  · exact Nat.zero_le _
  · rename_i h1
    split
    · exact Nat.zero_le _
    · have := h.room
      have h3 := room_cast h.three
      rw [← h3] at h1
      simp only [Option.getD_some, List.length_take]
      omega

set_option maxRecDepth 100000 in
set_option maxHeartbeats 8000000 in
theorem plays_any08 (A : Option Addr) (c : Nat) (ms : List (BOp × BOpV)) (w : World) (hm : BOpsAt w A ms) :
    Calls Try.prog 7 #[.slice A ms.length c] w fun e w' => e = .returned (.bool true) ∧ Keep [] w w' := by
  have hl := hm.len
  unfold maxLen at hl
  have HGR := Lib.hid (great_any08 A c ms w hm)
  obtain ⟨d0, hd0⟩ : ∃ d0, newD 4 13 5 = d0 := ⟨_, rfl⟩
  have HST : Hid (∀ W, Calls Try.prog 35 #[.int .i64 5] W (RetStart W d0)) := fun W => by rw [← hd0]; exact start_any08 5 (by decide) W
  have HAL := Lib.hid alive_any08
  go_enter Try.func7, Try.ntmps7
  go_wp2_with fail
  refine HGR.out.mono ?_
  rintro e w1 ⟨r, rfl, hr, k1⟩
  clear HGR
  cases r
  case true =>
    clear hr hm HST
    go_wp2_with fail
    go_ret
    exact ⟨rfl, k1⟩
  obtain ⟨hg1, hg2⟩ := hr rfl
  have HG1 := Lib.hid hg1
  have HG2 := Lib.hid hg2
  have HM1 := Lib.hid (hm.keep0 k1)
  have HMW := Lib.hid hm
  have HK1 := Lib.hid k1
  clear hr hm k1 hg1 hg2
  go_wp2_with fail
  refine (HST.out w1).mono ?_
  rintro e w2 ⟨g, gb, b1, b2, A1, A2, c1, c2, rfl, hlo, hd2, hb2, hx2, k2⟩
  have HLO := Lib.hid hlo
  have HD2 := Lib.hid hd2
  have HB2 := Lib.hid hb2
  have HX2 := Lib.hid hx2
  have HK2 := Lib.hid k2
  have hsame := Lib.hid (same0 5 (by decide))
  clear hlo hd2 hb2 hx2 k2 HST
  have hx0 : x0B 5 = ⟨d0, false, []⟩ := by unfold x0B; rw [hd0]
  rw [hx0] at hsame
  clear hx0
  have hns0 : (⟨d0, false, []⟩ : BenS).d.ns = 4 := by show d0.ns = 4; rw [← hd0]; rfl
  have HNS0 := Lib.hid hns0
  replace HD2 : Hid (DevAt w2 g b1 b2 (⟨d0, false, []⟩ : BenS).d) := HD2
  clear hd0 hns0
  generalize (⟨d0, false, []⟩ : BenS) = x0 at *
  go_wp2_with (refine stop_store 76 (.tmp 3) (.tmp 17) rfl ?_)
  constructor
  refine wpList_store_all rfl 76 (.tmp 3) (.tmp 17) rfl rfl rfl (t := 76) (cs := zeroBen) (vs := benchV g gb x0 A1 A2 c1 c2 none 0) agg_ben.2 (Blk.new _ _ _) (benchV_one _ _ _ _ _ _ _ _ _) rfl ?_
  intro w4 d4 k4
  have hL0 : LawAt w1.heap.size w w4 w2.heap.size g gb b1 b2 x0 := by
    have K24 : Keep [] w2 w4 := ((Keep.refl [] w2).alloc _).trans k4 (fun y hy hl => by simp only [List.mem_cons, List.not_mem_nil, or_false] at hy; omega)
    obtain ⟨l1, l2, l3, l4⟩ := HLO.out
    have hz := HK1.out.size
    have hz2 := HK2.out.size
    have hw := (HX2.out.widen (G := [w2.heap.size]) (fun y hy => by simp only [List.mem_cons, List.not_mem_nil, or_false] at hy; omega)).keep0 K24
    exact ⟨newB 0 4, A1, A2, c1, c2, none, 0, HD2.out.keep0 K24, HB2.out.keep0 K24, hw, d4, hsame.out.1, hsame.out.2, by omega, by have := K24.size; omega, (HK1.out.then HK2.out).then K24⟩
  have HL0 := Lib.hid hL0
  clear hL0 d4 k4 HLO HD2 HB2 HX2 hsame
  generalize w1.heap.size = bs at *
  generalize w2.heap.size = bx at *
  go_wp2_with fail
  go_loopw [4, 5, 6, 7, 8, 9, 10, 11, 12] (fun v4 v5 v6 v7 v8 v9 v10 v11 v12 wr => ∃ (i : Nat) (x : BenS), i ≤ ms.length ∧ v5 = .int .i64 (i : Int) ∧ x.d.ns = 4 ∧ LawAt bs w wr bx g gb b1 b2 x) (fun _ v5 _ _ _ _ _ _ _ _ => ms.length - (intOf v5).toNat)
  case atStart => exact ⟨0, x0, Nat.zero_le _, rfl, HNS0.out, HL0.out⟩
  case round =>
    obtain ⟨i, x, hi, rfl, hns, b, A1, A2, c1, c2, Ap, cp, hL⟩ := hrel
    have HL := Lib.hid hL
    clear hL
    by_cases hlt : i < ms.length
    · obtain ⟨ba, oa, rfl, hba, hc⟩ := HMW.out.op (by omega)
      have hcs : ∀ W', Keep [] w W' → ∀ k, (hk : k < ms.length) → CellsAt W' ba (oa + k * 4) (bopCells ms[k]) := fun W' kk k hk j u hu => (kk.cell (p := ⟨ba, oa + k * 4 + j, none⟩) hba (by simp)).trans (hc k hk j u hu)
      have HOP : Hid (∀ W', Keep [] wr W' → CellsAt W' ba (oa + i * 4) (bopCells ms[i])) := fun W' kk => hcs W' (HL.out.keep.then kk) i hlt
      have HOA : Hid (BOpAt w ms[i]) := HMW.out.each _ (List.getElem_mem hlt)
      have HOL : Hid (ms[i].1.l.length ≤ 40) := HG2.out _ (List.getElem_mem hlt)
      have HOFF : Hid (0 < ms[i].1.l.length → Off [gb, g, b1, b2] ms[i].2.a) := fun h0 ad ha hmem => by
        obtain ⟨b', o', e', hb', _⟩ := HOA.out.words.addr h0
        rw [e'] at ha
        cases ha
        have := HL.out.lo
        simp only [List.mem_cons, List.not_mem_nil, or_false] at hmem
        omega
      generalize ms[i] = m at *
      obtain ⟨o, v⟩ := m
      dsimp only at HOL HOFF
      have hi0 : (0 : Int) ≤ (i : Int) := by omega
      have hi1 : (i : Int) < (ms.length : Int) := by omega
      clear hcs hc HL0
      have HNS : Hid ((oneD x o).d.ns = 4) := (oneD_ns HL.out.same HL.out.big HOA.out.lt).ns.trans hns
      clear hns
      go_upto_region 9 with fail
      go_cut [4] from 28 to 96 (fun v4 wx => v4 = .bool true ∧ LawAt bs w wx bx g gb b1 b2 (oneD x o))
      case first =>
        refine ap_begin 5 (Keep [] wr) rfl (Keep.refl _ _).drew (fun hS hPan => ?_) (fun _ _ d _ _ h => by cases d <;> exact h)
        refine ap_agg 0 76 (.tmp 3) (benchV g gb x A1 A2 c1 c2 Ap cp) rfl (by kernel_rfl) (by kernel_rfl) (by kernel_rfl) (by kernel_rfl) (by rfl) hPan rfl rfl agg_ben (fun W' kk => (HL.out.box.keep0 kk).cellsAt) hS ?_
        (simp only [Act.put, List.setIfInBounds_toArray, List.set_cons_zero, List.set_cons_succ])
        (refine ap_val (v := ?_) 1 rfl (by kernel_rfl) (by kernel_rfl) (by kernel_rfl) (by kernel_rfl) (by rfl) hPan ?_ hS ?_; rotate_left; (intro w' hSw; go_simp; try with_reducible rfl); simp only [Act.put, List.setIfInBounds_toArray, List.set_cons_zero, List.set_cons_succ])
        (refine ap_val (v := ?_) 2 rfl (by kernel_rfl) (by kernel_rfl) (by kernel_rfl) (by kernel_rfl) (by rfl) hPan ?_ hS ?_; rotate_left; (intro w' hSw; go_simp; try with_reducible rfl); simp only [Act.put, List.setIfInBounds_toArray, List.set_cons_zero, List.set_cons_succ])
        (refine ap_val (v := ?_) 3 rfl (by kernel_rfl) (by kernel_rfl) (by kernel_rfl) (by kernel_rfl) (by rfl) hPan ?_ hS ?_; rotate_left; (intro w' hSw; go_simp; try with_reducible rfl); simp only [Act.put, List.setIfInBounds_toArray, List.set_cons_zero, List.set_cons_succ])
        refine ap_agg 4 80 (.tmp 31) (bopCells (o, v)) rfl (by kernel_rfl) (by kernel_rfl) (by kernel_rfl) (by kernel_rfl) (by rfl) hPan rfl rfl agg_bop (fun W' kk => HOP.out W' kk) hS ?_
        (simp only [Act.put, List.setIfInBounds_toArray, List.set_cons_zero, List.set_cons_succ])
        have hLd := HL.out.keep0 hS
        have hltd := hLd.lt
        generalize wr.drew = wd at *
        refine ap_one 5 (by kernel_rfl) ?_
        refine op_call (f := 36) (vs := #[.agg (benchV g gb x A1 A2 c1 c2 Ap cp).toArray, .agg (bopCells (o, v)).toArray]) 5 rfl (by kernel_rfl) rfl (by simp only [List.map_toArray, List.map_cons, List.map_nil]; rfl) Try.func36 (by kernel_rfl) (by kernel_rfl)
          (one_any bs [gb, g, b1, b2, bx] g gb b1 b2 x b o v A1 A2 c1 c2 Ap cp wd hLd.dev hLd.bank hLd.ben hLd.same hLd.big (HOA.out.keep0 (HL.out.keep.then hS)) hLd.bs_ HOFF.out HOL.out (fun y hy => by simp only [List.mem_cons, List.not_mem_nil, or_false] at hy ⊢; omega) hltd) ?_
        rintro e w4 ⟨b', A1', A2', c1', c2', Ap', cp', rfl, hd4, hb4, hx4, hs4, hB4, k4⟩
        have HR4 : Hid (DevAt w4 g b1 b2 (oneD x o).d ∧ BankAt w4 gb g b' ∧ BenAt bs [gb, g, b1, b2, bx] w4 A1' A2' c1' c2' Ap' (oneD x o) ∧ SameB (oneD x o) b' ∧ BigB (oneD x o).d ∧ Keep [gb, g, b1, b2] wr w4) := ⟨hd4, hb4, hx4, hs4, hB4, Keep.trans (hS.mono (by simp)) k4 (fun y hy _ => hy)⟩
        have hbx4 := hLd.box.keep k4 (by have := hLd.ne; simp only [List.mem_cons, List.not_mem_nil, or_false]; omega)
        generalize oneD x o = x' at *
        clear hLd hltd hd4 hb4 hx4 hs4 hB4 k4
        refine ⟨_, rfl, fun h => (by cases h), ?_⟩
        (simp only [Act.put, List.setIfInBounds_toArray, List.set_cons_zero, List.set_cons_succ])
        refine ap_one 6 (by kernel_rfl) ?_
        refine op_run (v := (.tuple #[.agg (benchV g gb x' A1' A2' c1' c2' Ap' cp').toArray, .bool true])) (w' := w4) 6 rfl (by kernel_rfl) (by go_simp) ?_
        refine ⟨fun h => (by cases h), ?_⟩
        (simp only [Act.put, List.setIfInBounds_toArray, List.set_cons_zero, List.set_cons_succ])
        refine ap_twoJ 7 8 (by kernel_rfl) ?x1 ?y1
        case x1 =>
          refine op_run (v := (.agg (benchV g gb x' A1' A2' c1' c2' Ap' cp').toArray)) (w' := w4) 7 rfl (by kernel_rfl) (by go_simp) ?_
          refine ⟨fun h => (by cases h), ?_⟩
          (simp only [Act.put, List.setIfInBounds_toArray, List.set_cons_zero, List.set_cons_succ])
          refine ap_twoJ 8 9 (by kernel_rfl) ?x2 ?y2
          case x2 =>
            refine op_run (v := .bool true) (w' := w4) 8 rfl (by kernel_rfl) (by go_simp) ?_
            refine ⟨fun h => (by cases h), ?_⟩
            (simp only [Act.put, List.setIfInBounds_toArray, List.set_cons_zero, List.set_cons_succ])
            refine ap_one 9 (by kernel_rfl) ?_
            refine op_store_all (t := 76) (cs := (benchV g gb x A1 A2 c1 c2 Ap cp).toArray) (vs := benchV g gb x' A1' A2' c1' c2' Ap' cp') 9 rfl (by kernel_rfl) rfl rfl rfl agg_ben.2 hbx4 (benchV_one _ _ _ _ _ _ _ _ _) rfl ?_
            intro w9 d9 k9
            refine ⟨fun h => (by cases h), ?_⟩
            (simp only [Act.put, List.setIfInBounds_toArray, List.set_cons_zero, List.set_cons_succ])
            refine ap_one 10 (by kernel_rfl) ?_
            refine op_run (v := .bool true) (w' := w9) 10 rfl (by kernel_rfl) (by go_simp) ?_
            refine ⟨fun h => (by cases h), ap_done (by kernel_rfl) ?_ _⟩
            (simp only [Act.put, List.setIfInBounds_toArray, List.set_cons_zero, List.set_cons_succ])
            obtain ⟨hd4, hb4, hx4, hs4, hB4, k4⟩ := HR4.out
            have HL9 : Hid (LawAt bs w w9 bx g gb b1 b2 x') := ⟨b', A1', A2', c1', c2', Ap', cp', HL.out.step hd4 hb4 hx4 hs4 hB4 k4 d9 k9⟩
            clear hd4 hb4 hx4 hs4 hB4 k4 d9 k9 hbx4 HR4 hS hPan
            go_wp2_with fail
            go_meet
            exact ⟨rfl, HL9.out⟩
          case y2 =>
            refine op_store_all (t := 76) (cs := (benchV g gb x A1 A2 c1 c2 Ap cp).toArray) (vs := benchV g gb x' A1' A2' c1' c2' Ap' cp') 9 rfl (by kernel_rfl) rfl rfl rfl agg_ben.2 hbx4 (benchV_one _ _ _ _ _ _ _ _ _) rfl ?_
            intro w9 d9 k9
            refine ⟨fun h => (by cases h), ?_⟩
            (simp only [Act.put, List.setIfInBounds_toArray, List.set_cons_zero, List.set_cons_succ])
            refine ap_one 8 (by kernel_rfl) ?_
            refine op_run (v := .bool true) (w' := w9) 8 rfl (by kernel_rfl) (by go_simp) ?_
            refine ⟨fun h => (by cases h), ?_⟩
            (simp only [Act.put, List.setIfInBounds_toArray, List.set_cons_zero, List.set_cons_succ])
            refine ap_one 10 (by kernel_rfl) ?_
            refine op_run (v := .bool true) (w' := w9) 10 rfl (by kernel_rfl) (by go_simp) ?_
            refine ⟨fun h => (by cases h), ap_done (by kernel_rfl) ?_ _⟩
            (simp only [Act.put, List.setIfInBounds_toArray, List.set_cons_zero, List.set_cons_succ])
            obtain ⟨hd4, hb4, hx4, hs4, hB4, k4⟩ := HR4.out
            have HL9 : Hid (LawAt bs w w9 bx g gb b1 b2 x') := ⟨b', A1', A2', c1', c2', Ap', cp', HL.out.step hd4 hb4 hx4 hs4 hB4 k4 d9 k9⟩
            clear hd4 hb4 hx4 hs4 hB4 k4 d9 k9 hbx4 HR4 hS hPan
            go_wp2_with fail
            go_meet
            exact ⟨rfl, HL9.out⟩
        case y1 =>
          refine op_run (v := .bool true) (w' := w4) 8 rfl (by kernel_rfl) (by go_simp) ?_
          refine ⟨fun h => (by cases h), ?_⟩
          (simp only [Act.put, List.setIfInBounds_toArray, List.set_cons_zero, List.set_cons_succ])
          refine ap_one 7 (by kernel_rfl) ?_
          refine op_run (v := (.agg (benchV g gb x' A1' A2' c1' c2' Ap' cp').toArray)) (w' := w4) 7 rfl (by kernel_rfl) (by go_simp) ?_
          refine ⟨fun h => (by cases h), ?_⟩
          (simp only [Act.put, List.setIfInBounds_toArray, List.set_cons_zero, List.set_cons_succ])
          refine ap_one 9 (by kernel_rfl) ?_
          refine op_store_all (t := 76) (cs := (benchV g gb x A1 A2 c1 c2 Ap cp).toArray) (vs := benchV g gb x' A1' A2' c1' c2' Ap' cp') 9 rfl (by kernel_rfl) rfl rfl rfl agg_ben.2 hbx4 (benchV_one _ _ _ _ _ _ _ _ _) rfl ?_
          intro w9 d9 k9
          refine ⟨fun h => (by cases h), ?_⟩
          (simp only [Act.put, List.setIfInBounds_toArray, List.set_cons_zero, List.set_cons_succ])
          refine ap_one 10 (by kernel_rfl) ?_
          refine op_run (v := .bool true) (w' := w9) 10 rfl (by kernel_rfl) (by go_simp) ?_
          refine ⟨fun h => (by cases h), ap_done (by kernel_rfl) ?_ _⟩
          (simp only [Act.put, List.setIfInBounds_toArray, List.set_cons_zero, List.set_cons_succ])
          obtain ⟨hd4, hb4, hx4, hs4, hB4, k4⟩ := HR4.out
          have HL9 : Hid (LawAt bs w w9 bx g gb b1 b2 x') := ⟨b', A1', A2', c1', c2', Ap', cp', HL.out.step hd4 hb4 hx4 hs4 hB4 k4 d9 k9⟩
          clear hd4 hb4 hx4 hs4 hB4 k4 d9 k9 hbx4 HR4 hS hPan
          go_wp2_with fail
          go_meet
          exact ⟨rfl, HL9.out⟩

      case rest =>
        obtain ⟨rfl, hl9⟩ := hcut
        generalize oneD x o = x' at *
        obtain ⟨b', A1', A2', c1', c2', Ap', cp', hL9⟩ := hl9
        have HL9 := Lib.hid hL9
        clear hL9 HL HOP HOA HOL HOFF
        have c1 : wc.cell? ⟨bx, 1, none⟩ = some (.pointer (some ⟨gb, 0, none⟩)) := (HL9.out.box.cell 1).trans (bench_gb _ _ _ _ _ _ _ _ _)
        go_upto_region 10 with fail
        go_wp2_with fail
        refine (bopen_any gb g b' wc HL9.out.bank).mono ?_
        rintro e w5 ⟨rfl, k5⟩
        have HL5 := Lib.hid (HL9.out.keep0 k5)
        have hop : b'.opn = x'.opn := HL9.out.same.opn
        have hpn := HL9.out.same.pn
        clear k5 HL9 c1
        have c1 : w5.cell? ⟨bx, 1, none⟩ = some (.pointer (some ⟨gb, 0, none⟩)) := (HL5.out.box.cell 1).trans (bench_gb _ _ _ _ _ _ _ _ _)
        go_upto_region 11 with fail
        have HIM := Lib.hid (bimage_any gb g b1 b2 x'.d b' w5 HL5.out.bank HL5.out.dev HL5.out.big.ok (HL5.out.same.bk HL5.out.big))
        rw [same_image HL5.out.same HL5.out.big] at HIM
        have hil : ((imgD x'.d).getD []).length ≤ 4096 := img_len HL5.out.big
        have HDI : Hid (∀ W', Keep [] w5 W' → Calls Try.prog 38 #[.agg (refV x'.d A1' A2' c1' c2').toArray] W' (RetSl W' (imgD x'.d))) := fun W' kk => image_any08 bs _ x'.d A1' A2' c1' c2' W' (HL5.out.ben.keep0 kk).rows HL5.out.big.ok HL5.out.big.three HL5.out.big.room
        generalize imgD x'.d = im at *
        go_wp2_with fail
        refine HIM.out.mono ?_
        intro e w6 h6
        obtain ⟨Aa, ca, rfl, ra, k6⟩ := retIm_sl (retSl_img h6)
        have HL6 := Lib.hid (HL5.out.keep0 k6)
        have HRA := Lib.hid ra
        have HK6 := Lib.hid k6
        clear h6 ra k6 HIM c1
        go_upto_region 12 with fail
        go_wp2_with (refine stop_load 57 (.tmp 49) rfl ?_)
        constructor
        refine wpList_load_agg rfl 57 (.tmp 49) rfl rfl (f := 2) (cs := refV x'.d A1' A2' c1' c2') agg_ref (bench_ref HL6.out.box) ?_
        go_wp2_with fail
        refine (HDI.out w6 HK6.out).mono ?_
        intro e w7 h7
        obtain ⟨Ab, cb, rfl, rb, k7⟩ := retIm_sl h7
        have HL7 := Lib.hid (HL6.out.keep0 k7)
        have HRW : Hid (∀ W', Keep [] w7 W' → Calls Try.prog 37 #[.slice Aa (im.getD []).length ca, .slice Ab (im.getD []).length cb] W' fun e w' => e = .returned (.bool true) ∧ Keep [] W' w') := fun W' kk => by
          have := brow_any Aa Ab ca cb (im.getD []) (im.getD []) W' ((HRA.out.keep0 k7).keep0 kk) (rb.keep0 kk) (by omega) (by omega)
          rw [decide_eq_true rfl] at this
          exact this
        clear h7 rb k7 HRA HDI HL5 HL6 HK6
        have g12 : w7.cell? ⟨bx, 12, none⟩ = some (.bool x'.opn) := (HL7.out.box.cell 12).trans (bench_cells g gb x' A1' A2' c1' c2' Ap' cp').2.2.2.2.2.2.2.2.1
        have g13 : w7.cell? ⟨bx, 13, none⟩ = some (.slice Ap' x'.put.length cp') := (HL7.out.box.cell 13).trans (bench_cells g gb x' A1' A2' c1' c2' Ap' cp').2.2.2.2.2.2.2.2.2
        generalize (im.getD []).length = il at *
        generalize im.isSome = ih at *
        clear hop
        go_upto_region 13 with fail
        go_cut [6, 7, 9, 11, 12, 82] from 36 to 96 (fun _ _ _ _ _ v82 wx => v82 = .bool false ∧ LawAt bs w wx bx g gb b1 b2 x')
        case first =>
          cases hox : x'.opn with
          | false =>
            rw [hox] at g12
            clear hpn
            cases ih <;> (go_wp2_with fail; refine (HRW.out w7 (Keep.refl _ _)).mono ?_; rintro e w8 ⟨rfl, k8⟩; have HL8 : Hid (LawAt bs w w8 bx g gb b1 b2 x') := ⟨b', A1', A2', c1', c2', Ap', cp', HL7.out.keep0 k8⟩; clear k8 g12 g13 HRW; go_wp2_with fail; go_meet; exact ⟨rfl, HL8.out⟩)
          | true =>
            rw [hox] at g12
            have hpp : b'.pn = x'.put.length := hpn hox
            clear hpn
            cases ih <;> (go_wp2_with fail; refine (HRW.out w7 (Keep.refl _ _)).mono ?_; rintro e w8 ⟨rfl, k8⟩; have HL8 : Hid (LawAt bs w w8 bx g gb b1 b2 x') := ⟨b', A1', A2', c1', c2', Ap', cp', HL7.out.keep0 k8⟩; clear k8 g12 g13 HRW; go_wp2_with fail; go_meet; exact ⟨rfl, HL8.out⟩)
        case rest =>
          clear HL7 HRW g12 g13
          obtain ⟨rfl, hcut⟩ := hcut
          have HLC := Lib.hid hcut
          clear hcut hpn
          go_upto_region 15 with fail
          go_wp2_with fail
          go_loopw [12] (fun v12 wm => ∃ σ : Nat, σ ≤ 4 ∧ v12 = .int .i64 (σ : Int) ∧ LawAt bs w wm bx g gb b1 b2 x') (fun v12 _ => 4 - (intOf v12).toNat)
          case atStart => exact ⟨0, by omega, rfl, HLC.out⟩
          case round =>
            obtain ⟨σ, hσ, rfl, bb, B1, B2, e1, e2, Bp, ep, hM⟩ := hrel
            have HM := Lib.hid hM
            clear hM
            by_cases hσ4 : σ < 4
            · have HSC : Hid (∀ W', Keep [] wr W' → Calls Try.prog 39 #[.pointer (some ⟨g, 0, none⟩), .int .i64 (σ : Int)] W' (RetWords W' (sectL x'.d σ))) := fun W' kk => by
                have := fsector_any g b1 b2 x'.d (σ : Int) W' (HM.out.dev.keep0 kk) HM.out.big.ok
                rw [show sectS x'.d (σ : Int) = sectL x'.d σ by unfold sectS; rw [if_pos (by have := HNS.out; omega)]; rfl] at this
                exact this
              have HWD : Hid (∀ W', Keep [] wr W' → Calls Try.prog 40 #[.agg (refV x'.d B1 B2 e1 e2).toArray, .int .i64 (σ : Int)] W' fun e w' => ∃ A c, e = .returned (.slice A x'.d.nw c) ∧ Reads w' 1 A x'.d.nw (wordsV (sectL x'.d σ)) ∧ Keep [] W' w') := fun W' kk =>
                words_any08 bs _ B1 B2 e1 e2 x'.d σ W' (HM.out.ben.rows.keep0 kk) HM.out.big.ok (by have := HNS.out; omega)
              have hsl : (sectL x'.d σ).length = x'.d.nw := sectL_len x'.d HM.out.big.ok σ (by have := HNS.out; omega)
              have hn1 : x'.d.nw ≤ 1024 := HM.out.big.ok.nw2
              have hF : ∀ W', Keep [] wr W' → W'.cell? ⟨bx, 0, none⟩ = some (.pointer (some ⟨g, 0, none⟩)) ∧ True := fun W' kk => ⟨((HM.out.box.keep0 kk).cell 0).trans (bench_g _ _ _ _ _ _ _ _ _), trivial⟩
              have hF2 : ∀ W', Keep [] wr W' → CellsAt W' bx 2 (refV x'.d B1 B2 e1 e2) := fun W' kk => bench_ref (HM.out.box.keep0 kk)
              have HN := Lib.hid HNS.out
              clear HLC HMW HG1 HG2 HM1 HNS HNS0
              generalize sectL x'.d σ = sl at *
              generalize x'.d.nw = nw at *
              subst hsl
              go_upto_region 18 with fail
              refine ap_begin 9 (Keep [] wr) rfl (Keep.refl _ _).drew (fun hS hPan => ?_) (fun _ _ d _ _ h => by cases d <;> exact h)
              (refine ap_val (v := ?_) 0 rfl (by kernel_rfl) (by kernel_rfl) (by kernel_rfl) (by kernel_rfl) (by rfl) hPan ?_ hS ?_; rotate_left; (intro w' hSw; go_simp; try with_reducible rfl); simp only [Act.put, List.setIfInBounds_toArray, List.set_cons_zero, List.set_cons_succ])
              (refine ap_val (v := ?_) 1 rfl (by kernel_rfl) (by kernel_rfl) (by kernel_rfl) (by kernel_rfl) (by rfl) hPan ?_ hS ?_; rotate_left; (intro w' hSw; obtain ⟨f0,f1⟩ := hF w' hSw; go_simp; try with_reducible rfl); simp only [Act.put, List.setIfInBounds_toArray, List.set_cons_zero, List.set_cons_succ])
              (refine ap_val (v := ?_) 2 rfl (by kernel_rfl) (by kernel_rfl) (by kernel_rfl) (by kernel_rfl) (by rfl) hPan ?_ hS ?_; rotate_left; (intro w' hSw; go_simp; try with_reducible rfl); simp only [Act.put, List.setIfInBounds_toArray, List.set_cons_zero, List.set_cons_succ])
              (refine ap_val (v := ?_) 4 rfl (by kernel_rfl) (by kernel_rfl) (by kernel_rfl) (by kernel_rfl) (by rfl) hPan ?_ hS ?_; rotate_left; (intro w' hSw; go_simp; try with_reducible rfl); simp only [Act.put, List.setIfInBounds_toArray, List.set_cons_zero, List.set_cons_succ])
              refine ap_agg 5 57 (.tmp 91) (refV x'.d B1 B2 e1 e2) rfl (by kernel_rfl) (by kernel_rfl) (by kernel_rfl) (by kernel_rfl) (by rfl) hPan rfl rfl agg_ref hF2 hS ?_
              (simp only [Act.put, List.setIfInBounds_toArray, List.set_cons_zero, List.set_cons_succ])
              (refine ap_val (v := ?_) 6 rfl (by kernel_rfl) (by kernel_rfl) (by kernel_rfl) (by kernel_rfl) (by rfl) hPan ?_ hS ?_; rotate_left; (intro w' hSw; go_simp; try with_reducible rfl); simp only [Act.put, List.setIfInBounds_toArray, List.set_cons_zero, List.set_cons_succ])
              generalize wr.drew = wd at *
              refine ap_one 3 (by kernel_rfl) ?_
              refine op_call (f := 39) (vs := #[.pointer (some ⟨g, 0, none⟩), .int .i64 (σ : Int)]) 3 rfl (by kernel_rfl) rfl (by simp only [List.map_toArray, List.map_cons, List.map_nil]; rfl) Try.func39 (by kernel_rfl) (by kernel_rfl) (HSC.out wd hS) ?_
              rintro e w3 ⟨As, cs, rfl, hown, k3⟩
              have hr3 := Reads.of_own hown
              have K3 := hS.then k3
              refine ⟨_, rfl, fun _ => K3, ?_⟩
              (simp only [Act.put, List.setIfInBounds_toArray, List.set_cons_zero, List.set_cons_succ])
              refine ap_one 7 (by kernel_rfl) ?_
              refine op_call (f := 40) (vs := #[.agg (refV x'.d B1 B2 e1 e2).toArray, .int .i64 (σ : Int)]) 7 rfl (by kernel_rfl) rfl (by simp only [List.map_toArray, List.map_cons, List.map_nil]; rfl) Try.func40 (by kernel_rfl) (by kernel_rfl) (HWD.out w3 K3) ?_
              rintro e w4 ⟨Aw, cw, rfl, hr4, k4⟩
              have K4 := K3.then k4
              refine ⟨_, rfl, fun _ => K4, ?_⟩
              (simp only [Act.put, List.setIfInBounds_toArray, List.set_cons_zero, List.set_cons_succ])
              refine ap_one 8 (by kernel_rfl) ?_
              refine op_call (f := 37) (vs := #[.slice As sl.length cs, .slice Aw sl.length cw]) 8 rfl (by kernel_rfl) rfl (by simp only [List.map_toArray, List.map_cons, List.map_nil]; rfl) Try.func37 (by kernel_rfl) (by kernel_rfl) (brow_any As Aw cs cw sl sl w4 (hr3.keep0 k4) hr4 (by omega) (by omega)) ?_
              rintro e w5 ⟨rfl, k5⟩
              have K5 := K4.then k5
              rw [decide_eq_true rfl]
              refine ⟨_, rfl, fun _ => K5, ?_⟩
              (simp only [Act.put, List.setIfInBounds_toArray, List.set_cons_zero, List.set_cons_succ])
              refine ap_one 9 (by kernel_rfl) ?_
              refine op_run (v := .bool false) (w' := w5) 9 rfl (by kernel_rfl) (by go_simp) ?_
              refine ⟨fun _ => K5, ap_done (by kernel_rfl) ?_ _⟩
              (simp only [Act.put, List.setIfInBounds_toArray, List.set_cons_zero, List.set_cons_succ])
              have HL9 : Hid (LawAt bs w w5 bx g gb b1 b2 x') := ⟨bb, B1, B2, e1, e2, Bp, ep, HM.out.keep0 K5⟩
              clear K3 K4 K5 k3 k4 k5 hown hr3 hr4 hS hPan hF hF2 HSC HWD HM
              go_wp2_with fail
              go_roundw
              case rel => exact ⟨σ + 1, by omega, by go_num, HL9.out⟩
              case measure => simp [intOf]; omega
            · obtain rfl : σ = 4 := by omega
              have HL9 : Hid (LawAt bs w wr bx g gb b1 b2 x') := ⟨bb, B1, B2, e1, e2, Bp, ep, HM.out⟩
              clear HM HLC
              go_wp2_with fail
              go_roundw
              case rel => exact ⟨i + 1, x', by omega, by go_num, HNS.out, HL9.out⟩
              case measure => simp [intOf]; omega
    · obtain rfl : i = ms.length := by omega
      have HKF := Lib.hid HL.out.keep
      clear HL HL0 hns
      go_wp2_with fail
      refine (HAL.out wr).mono ?_
      rintro e w5 ⟨rfl, k5⟩
      go_wp2_with fail
      go_ret
      exact ⟨rfl, HKF.out.then k5⟩
end Go.Proofs.Yteanpgkonhdbpaa
