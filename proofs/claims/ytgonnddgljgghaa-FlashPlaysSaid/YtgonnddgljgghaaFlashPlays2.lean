/- FlashPlays where there is a device, walked. -/
import Derived.Test.YtgonnddgljgghaaFlashPlays
import Derived.StillTailTactics
namespace Go.Proofs.Ytgonnddgljgghaa
open Go.RowKit

/-- Device and document at one state. -/
structure Both (base : Nat) (w : World) (g b1 b2 r : Nat) (d : Dev) : Prop where
  dev : DevAt w g b1 b2 d
  val : ∃ A1 A2 c1 c2, Blk w r 78 (refV d A1 A2 c1 c2).toArray ∧ ROwn base [g, b1, b2] w A1 A2 c1 c2 d
theorem Both.keep0 {base : Nat} {w w' : World} {g b1 b2 r : Nat} {d : Dev} (h : Both base w g b1 b2 r d) (k : Keep [] w w') : Both base w' g b1 b2 r d := by
  obtain ⟨A1, A2, c1, c2, h1, h2⟩ := h.val
  exact ⟨h.dev.keep k (by simp) (by simp) (by simp), A1, A2, c1, c2, h1.keep0 k, h2.keep0 k⟩

set_option maxRecDepth 100000 in
set_option maxHeartbeats 2000000 in
theorem flashPlays_yes (s q l : Nat) (A : Option Addr) (n c : Nat) (xs : List FOp) (w : World) (hn : n ≤ 60) (hx : xs.length = n) (hr : Reads w 4 A n (fopRow xs)) (hxs : ∀ o ∈ xs, o.w < 4294967296 ∧ o.word ≤ 9223372036854775807)
    (h1 : 1 ≤ s) (h2 : s ≤ 64) (h3 : 1 ≤ q) (h4 : q ≤ 1024) (h6 : l ≤ 1048576) :
    Calls Try.prog 9 #[szV s q l, .slice A n c] w fun e w' => e = .returned (.bool true) ∧ Keep [] w w' := by
  have HR := fun W => Lib.hid (rnew_yes s q l W h1 h2 h3 h4 h6)
  have HN := fun W => Lib.hid (fnew_yes s q l W h1 h2 h3 h4 h6)
  have HA : Hid (AggOf Try.prog 78 10) := agg_ref
  have HO : Hid ((newD s q l).Ok) := newD_ok s q l h1 h2 h3 h4 h6
  have HL : Hid ((newD s q l).bits.length = s * q) := by show _ = _; simp [newD]
  have HX := Lib.hid hx
  clear hx
  go_enter Try.func9, Try.ntmps9
  go_wp2_with fail
  refine (HR _).out.mono ?_
  rintro e w1 ⟨A1, A2, c1, c2, rfl, hro, k1⟩
  have K1 := Lib.hid (((Keep.refl [] w).alloc (.cells #[.int .i64 s, .int .i64 q, .int .i64 l] 71)).then k1)
  have b1 := (Blk.new w 71 #[.int .i64 s, .int .i64 q, .int .i64 l]).keep0 k1
  have d0 := b1.cell 0
  have d1 := b1.cell 1
  have d2 := b1.cell 2
  simp at d0 d1 d2
  have hlt := b1.lt
  have HB1 := Lib.hid b1
  have HRO := Lib.hid hro
  clear b1 k1 hro
  go_wp2_with (refine stop_store 78 (.tmp 5) (.tmp 26) rfl ?_)
  constructor
  refine wpList_store_all rfl 78 (.tmp 5) (.tmp 26) rfl rfl rfl (t := 78) (cs := zeroD) (vs := refV (newD s q l) A1 A2 c1 c2) HA.out.2 (Blk.new _ _ _) (refV_one _ _ _ _ _) rfl ?_
  intro w2 e2 k2
  have hk := (K1.out.alloc (.cells zeroD 78))
  have kk : Keep [] w w2 := hk.trans k2 (by have := K1.out.size; simp; omega)
  have k12 : Keep [] w1 w2 := ((Keep.refl [] w1).alloc (.cells zeroD 78)).trans k2 (by simp)
  have b2 := HB1.out.keep0 k12
  have hc3 := e2.cell 3
  rw [(ref_cells (newD s q l) A1 A2 c1 c2).2.2.2.1] at hc3
  have hgt := e2.lt
  have HB2 := Lib.hid b2
  have HRO2 : Hid (ROwn w.heap.size [] w2 A1 A2 c1 c2 (newD s q l)) := by
    have h := HRO.out
    have hw1 : w.heap.size ≤ (w.alloc (.cells #[.int .i64 s, .int .i64 q, .int .i64 l] 71)).heap.size := by simp
    exact ⟨own_keep0 (own_base h.bits hw1) k12, own_keep0 (own_base h.worn hw1) k12, by simp, by simp⟩
  have KK := Lib.hid kk
  have HE2 := Lib.hid e2
  have hs12 := k12.size
  rw [HL.out] at hc3
  clear kk b2 k2 e2 hk k12 HRO HB1
  obtain ⟨r5, hr5⟩ : ∃ r5, w1.heap.size = r5 := ⟨_, rfl⟩
  rw [hr5] at HE2 hc3 hgt ⊢
  have HR5 : Hid (w.heap.size < r5) := by show _ < _; omega
  clear hr5
  obtain ⟨N, hN⟩ : ∃ N, s * q = N := ⟨_, rfl⟩
  rw [hN] at hc3 HL
  have d0' := HB2.out.cell 0
  have d1' := HB2.out.cell 1
  have d2' := HB2.out.cell 2
  simp at d0' d1' d2'
  by_cases hbig : 400 < N
  · go_wp2_with fail
    go_ret
    exact ⟨rfl, KK.out⟩
  · go_wp2_with fail
    refine (HN _).out.mono ?_
    rintro e w3 ⟨g, bb1, bb2, rfl, hg, hg1, hg2, hd3, k3⟩
    have HB3 : Hid (Both w.heap.size w3 g bb1 bb2 r5 (newD s q l)) := by
      have h := HRO2.out
      have e1 : ∀ y, (Value.slice A1 (newD s q l).bits.length c1).ownBlock = some y → y ∉ [g, bb1, bb2] := fun y hy hm => by have := (h.bits.lt y hy).2; simp at hm; omega
      have e2 : ∀ y, (Value.slice A2 (newD s q l).worn.length c2).ownBlock = some y → y ∉ [g, bb1, bb2] := fun y hy hm => by have := (h.worn.lt y hy).2; simp at hm; omega
      exact ⟨hd3, A1, A2, c1, c2, HE2.out.keep0 k3, (h.keep0 k3).more e1 e2⟩
    have K3 := Lib.hid (KK.out.then k3)
    have B3 := Lib.hid (HB2.out.keep0 k3)
    have HG : Hid (w.heap.size ≤ g ∧ w.heap.size ≤ bb1 ∧ w.heap.size ≤ bb2 ∧ g ≠ r5 ∧ bb1 ≠ r5 ∧ bb2 ≠ r5) := by refine ⟨?_, ?_, ?_, ?_, ?_, ?_⟩ <;> omega
    clear k3 hd3 hg hg1 hg2 HE2 HRO2 hc3 hgt d0 d1 d2 d0' d1' d2' KK K1 HB2 HN HR hlt
    go_wp2_with fail
    go_loopw [10] (fun vi wr => ∃ k : Nat, k ≤ n ∧ vi = .int .i64 k ∧ Both w.heap.size wr g bb1 bb2 r5 (plays (newD s q l) (xs.take k)) ∧ Blk wr w.heap.size 71 #[.int .i64 s, .int .i64 q, .int .i64 l] ∧ Keep [] w wr) (fun vi _ => n - (intOf vi).toNat)
    case atStart => exact ⟨0, Nat.zero_le _, rfl, HB3.out, B3.out, K3.out⟩
    case round =>
      obtain ⟨k, hk, rfl, hboth, hsz, hkp⟩ := hrel
      by_cases hlt : k < n
      · have hkx : k < xs.length := by rw [HX.out]; exact hlt
        obtain ⟨b, ob, rfl, hb, hcs⟩ := hr.addr (by omega)
        have hok : (plays (newD s q l) (xs.take k)).Ok := plays_ok HO.out _ (fun o ho => hxs o (List.mem_of_mem_take ho))
        have hsucc : plays (newD s q l) (xs.take (k + 1)) = doS (plays (newD s q l) (xs.take k)) xs[k] := by rw [List.take_succ_eq_append_getElem hkx, plays_snoc]
        have hox := hxs _ (List.getElem_mem hkx)
        have hop : ∀ j u, (fopCells xs[k])[j]? = some u → w.cell? ⟨b, ob + k * 4 + j, none⟩ = some u := fun j u hu => by
          have hj : j < 4 := by
            have := (List.getElem?_eq_some_iff.1 hu).1
            simpa using this
          have := hcs (k * 4 + j) u (by rw [fopRow_at xs k hkx j hj]; exact hu)
          rwa [← Nat.add_assoc] at this
        have hcb : b < wr.heap.size := Nat.lt_of_lt_of_le hb hkp.size
        have HOP : Hid (∀ W, Keep [] w W → CellsAt W b (ob + k * 4) (fopCells xs[k])) := fun W hW j u hu => by
          have := hop j u hu
          exact (hW.cell (p := ⟨b, ob + k * 4 + j, none⟩) hb (by simp)).trans this
        have HSU := Lib.hid hsucc
        have HOX := Lib.hid hox
        have HOK := Lib.hid hok
        have HSZ := Lib.hid hsz
        have HKP := Lib.hid hkp
        have HBO := Lib.hid hboth
        have hki : (k : Int) < (n : Int) := by omega
        have hki0 : (0 : Int) ≤ (k : Int) := by omega
        clear hop hsucc hox hok hsz hkp hboth hcs
        generalize plays (newD s q l) (xs.take k) = d at *
        generalize xs[k] = o at *
        go_upto_region 13 with fail
        go_cut [9] from 70 to 133 (fun v9 wx => v9 = .bool true ∧ Both w.heap.size wx g bb1 bb2 r5 (doS d o) ∧ Blk wx w.heap.size 71 #[.int .i64 s, .int .i64 q, .int .i64 l] ∧ Keep [] w wx)
        case first =>
          obtain ⟨hdev, A1', A2', c1', c2', hblk, hrow⟩ := HBO.out
          have hsw : w.heap.size ≤ wr.heap.size := HKP.out.size
          refine an_start (by kernel_rfl) ?_
          refine an_take 0 rfl (by kernel_rfl) (by kernel_rfl) (by kernel_rfl) (fun _ _ _ h => h) (fun _ => rfl) ?_
          refine an_take 2 rfl (by kernel_rfl) (by kernel_rfl) (by kernel_rfl) (fun _ _ _ h => h) (fun _ => rfl) ?_
          refine an_take 3 rfl (by kernel_rfl) (by kernel_rfl) (by kernel_rfl) (fun _ _ _ h => h) (fun _ => rfl) ?_
          (simp only [Act.put, List.setIfInBounds_toArray, List.set_cons_zero, List.set_cons_succ])
          refine an_take (v := .pointer (some ⟨b, ob + k * 4, none⟩)) 4 rfl (by kernel_rfl) (by kernel_rfl) (by kernel_rfl) (fun _ _ _ h => h) (fun w' => by go_simp) ?_
          (simp only [Act.put, List.setIfInBounds_toArray, List.set_cons_zero, List.set_cons_succ])
          refine an_load2 (cs := refV d A1' A2' c1' c2') (cs' := fopCells o) 1 5 rfl rfl (by kernel_rfl) (by kernel_rfl) (by kernel_rfl) rfl agg_ref hblk.drew.cellsAt rfl agg_fop (HOP.out _ HKP.out.drew) rfl rfl ?_ ?_
          all_goals
            (simp only [Act.put, List.setIfInBounds_toArray, List.set_cons_zero, List.set_cons_succ])
            refine an_call (vs := #[.pointer (some ⟨g, 0, none⟩), .agg (refV d A1' A2' c1' c2').toArray, .agg (fopCells o).toArray]) 6 rfl (by kernel_rfl) (by simp only [List.map_toArray, List.map_cons, List.map_nil]; rfl) Try.func48 (by kernel_rfl) (by kernel_rfl)
              (do_any w.heap.size g bb1 bb2 [] A1' A2' c1' c2' d o wr.drew (hdev.keep ((Keep.refl [] wr).drew) (by simp) (by simp) (by simp)) (hrow.keep0 ((Keep.refl [] wr).drew)) HOK.out hsw HOX.out.1 (by simp)) ?_
            rintro e w4 ⟨A3, A4, c3, c4, rfl, hd4, hr4, k4⟩
            refine ⟨_, rfl, ?_⟩
            refine an_take 7 rfl (by kernel_rfl) (by kernel_rfl) (by kernel_rfl) (fun _ _ _ h => h) (fun _ => rfl) ?_
            (simp only [Act.put, List.setIfInBounds_toArray, List.set_cons_zero, List.set_cons_succ])
            refine an_take (v := .agg (refV (doS d o) A3 A4 c3 c4).toArray) 8 rfl (by kernel_rfl) (by kernel_rfl) (by kernel_rfl) (fun _ _ _ h => h) (fun _ => rfl) ?_
            refine an_take (v := .bool true) 9 rfl (by kernel_rfl) (by kernel_rfl) (by kernel_rfl) (fun _ _ _ h => h) (fun _ => rfl) ?_
            (simp only [Act.put, List.setIfInBounds_toArray, List.set_cons_zero, List.set_cons_succ])
            have hg5 : r5 ∉ [g, bb1, bb2] := by have := HG.out; simp; omega
            refine an_store (t := 78) (cs := (refV d A1' A2' c1' c2').toArray) (vs := refV (doS d o) A3 A4 c3 c4) 10 rfl (by kernel_rfl) rfl rfl agg_ref.2 (hblk.drew.keep k4 hg5) (refV_one _ _ _ _ _) rfl ?_
            intro w5 d5 k5
            refine an_take 11 rfl (by kernel_rfl) (by kernel_rfl) (by kernel_rfl) (fun _ _ _ h => h) (fun _ => rfl) ?_
            refine wpAny_done (by kernel_rfl) ?_ _
            (simp only [Act.put, List.setIfInBounds_toArray, List.set_cons_zero, List.set_cons_succ])
            have hb5 : Both w.heap.size w5 g bb1 bb2 r5 (doS d o) := by
              have hq := hblk.drew.keep k4 hg5
              exact ⟨hd4.keep k5 (by simp; have := HG.out; omega) (by simp; have := HG.out; omega) (by simp; have := HG.out; omega), A3, A4, c3, c4, d5,
                hr4.keepLt k5 (fun y hy hm => hr4.notBlk1 hq (by decide) hy (by simpa using hm)) (fun y hy hm => hr4.notBlk2 hq (by decide) hy (by simpa using hm))⟩
            have hsz5 : Blk w5 w.heap.size 71 #[.int .i64 s, .int .i64 q, .int .i64 l] := by
              have n1 := HSZ.out.ne_ hdev.dev (by decide)
              have n2 := HSZ.out.ne_ hdev.bits (by decide)
              have n3 := HSZ.out.ne_ hdev.worn (by decide)
              exact (HSZ.out.drew.keep k4 (by simp; exact ⟨n1, n2, n3⟩)).keep k5 (by simp; have := HR5.out; omega)
            have hk5 : Keep [] w w5 := (HKP.out.drew.trans k4 (fun y hy hlt => by have := HG.out; simp at hy; omega)).trans k5 (fun y hy hlt => by have := HR5.out; simp at hy; omega)
            have HB5 := Lib.hid hb5
            have HSZ5 := Lib.hid hsz5
            have HK5 := Lib.hid hk5
            clear hb5 hsz5 hk5 hd4 hr4 k4 k5 d5
            go_wp2_with fail
            go_meet
            exact ⟨rfl, HB5.out, HSZ5.out, HK5.out⟩
        case rest =>
          obtain ⟨rfl, hb5, hsz5, hk5⟩ := hcut
          have HB5 := Lib.hid hb5
          have HSZ5 := Lib.hid hsz5
          have HK5 := Lib.hid hk5
          have HDO : Hid ((doS d o).Ok) := doS_ok HOK.out o HOX.out.1 HOX.out.2
          have hcb5 : b < wc.heap.size := Nat.lt_of_lt_of_le hb hk5.size
          have hp1 := HOP.out wc hk5 1 (.int .i64 o.sector) rfl
          have hp2 := HOP.out wc hk5 2 (.int .i64 o.word) rfl
          have hdv := hb5.dev
          have HRD : Hid (∀ W, Keep [] wc W → Calls Try.prog 53 #[.pointer (some ⟨g, 0, none⟩), .int .i64 o.sector, .int .i64 o.word] W fun e w' => e = .returned (.tuple #[.int .u32 ((readS (doS d o) o.sector o.word).1 : Int), .int .i64 (readS (doS d o) o.sector o.word).2]) ∧ W = w') :=
            fun W hW => fread_any g bb1 bb2 (doS d o) o.sector o.word W (hdv.keep hW (by simp) (by simp) (by simp)) HDO.out
          have HWC : Hid (Keep [] wc wc) := Keep.refl _ _
          clear hb5 hsz5 hk5 hdv HB3 B3 K3 HBO HSZ HKP HOK
          go_upto_region 14 with fail
          go_quiet ((go_at_call 53; exact quiet_same' (HRD.out _ (HWC.out.drewN _))))
          go_upto_region 15 with fail
          have HB6 := Lib.hid (HB5.out.keep0 ((Keep.refl [] wc).drewN nq))
          have HSZ6 := Lib.hid (HSZ5.out.keep0 ((Keep.refl [] wc).drewN nq))
          have HK6 := Lib.hid (HK5.out.drewN nq)
          clear hp1 hp2 HRD HWC HB5 HSZ5 HK5
          generalize wc.drewN nq = w6 at *
          obtain ⟨hdev, A1', A2', c1', c2', hblk, hrow⟩ := HB6.out
          have hS0 : Blk w6 r5 78 (refV (doS d o) A1' A2' c1' c2').toArray ∧ CellsAt w6 b (ob + k * 4) (fopCells o) := ⟨hblk, HOP.out _ HK6.out⟩
          have HRR := Lib.hid (rread_any A1' A2' c1' c2' (doS d o) o.sector o.word w6.drew (hrow.keep0 ((Keep.refl [] w6).drew)).at_ HDO.out)
          generalize readS (doS d o) o.sector o.word = rr at *
          refine wp_region_held_drew (by kernel_rfl) (S := fun w' => Blk w' r5 78 (refV (doS d o) A1' A2' c1' c2').toArray ∧ CellsAt w' b (ob + k * 4) (fopCells o)) hS0 (fun hS => ?_)
          refine ah_load (cs := refV (doS d o) A1' A2' c1' c2') 0 rfl (by kernel_rfl) (by kernel_rfl) (by kernel_rfl) (fun _ _ _ h => h) rfl agg_ref (fun _ h => h.1.cellsAt) hS ?_
          refine ah_take 1 rfl (by kernel_rfl) (by kernel_rfl) (by kernel_rfl) (fun _ _ _ h => h) (fun _ _ => rfl) hS ?_
          refine ah_take 2 rfl (by kernel_rfl) (by kernel_rfl) (by kernel_rfl) (fun _ _ _ h => h) (fun _ _ => rfl) hS ?_
          (simp only [Act.put, List.setIfInBounds_toArray, List.set_cons_zero, List.set_cons_succ])
          refine ah_take (v := .pointer (some ⟨b, ob + k * 4, none⟩)) 3 rfl (by kernel_rfl) (by kernel_rfl) (by kernel_rfl) (fun _ _ _ h => h) (fun w' _ => by go_simp) hS ?_
          (simp only [Act.put, List.setIfInBounds_toArray, List.set_cons_zero, List.set_cons_succ])
          refine ah_take (v := .pointer (some ⟨b, ob + k * 4 + 1, none⟩)) 4 rfl (by kernel_rfl) (by kernel_rfl) (by kernel_rfl) (fun _ _ _ h => h) (fun w' _ => by go_simp) hS ?_
          (simp only [Act.put, List.setIfInBounds_toArray, List.set_cons_zero, List.set_cons_succ])
          refine ah_take (v := .int .i64 o.sector) 5 rfl (by kernel_rfl) (by kernel_rfl) (by kernel_rfl) (fun _ _ _ h => h) (fun w' h => by have h2 := h.2 1 (.int .i64 o.sector) rfl; go_simp) hS ?_
          refine ah_take 6 rfl (by kernel_rfl) (by kernel_rfl) (by kernel_rfl) (fun _ _ _ h => h) (fun _ _ => rfl) hS ?_
          refine ah_take 7 rfl (by kernel_rfl) (by kernel_rfl) (by kernel_rfl) (fun _ _ _ h => h) (fun _ _ => rfl) hS ?_
          (simp only [Act.put, List.setIfInBounds_toArray, List.set_cons_zero, List.set_cons_succ])
          refine ah_take (v := .pointer (some ⟨b, ob + k * 4, none⟩)) 8 rfl (by kernel_rfl) (by kernel_rfl) (by kernel_rfl) (fun _ _ _ h => h) (fun w' _ => by go_simp) hS ?_
          (simp only [Act.put, List.setIfInBounds_toArray, List.set_cons_zero, List.set_cons_succ])
          refine ah_take (v := .pointer (some ⟨b, ob + k * 4 + 2, none⟩)) 9 rfl (by kernel_rfl) (by kernel_rfl) (by kernel_rfl) (fun _ _ _ h => h) (fun w' _ => by go_simp) hS ?_
          (simp only [Act.put, List.setIfInBounds_toArray, List.set_cons_zero, List.set_cons_succ])
          refine ah_take (v := .int .i64 o.word) 10 rfl (by kernel_rfl) (by kernel_rfl) (by kernel_rfl) (fun _ _ _ h => h) (fun w' h => by have h2 := h.2 2 (.int .i64 o.word) rfl; go_simp) hS ?_
          (simp only [Act.put, List.setIfInBounds_toArray, List.set_cons_zero, List.set_cons_succ])
          refine ah_call (vs := #[.agg (refV (doS d o) A1' A2' c1' c2').toArray, .int .i64 o.sector, .int .i64 o.word]) 11 rfl (by kernel_rfl) (by simp only [List.map_toArray, List.map_cons, List.map_nil]; rfl) Try.func54 (by kernel_rfl) (by kernel_rfl) HRR.out ?_
          rintro e w7 ⟨rfl, k7⟩
          have hS7 : Blk w7 r5 78 (refV (doS d o) A1' A2' c1' c2').toArray ∧ CellsAt w7 b (ob + k * 4) (fopCells o) := ⟨hS.1.keep0 k7, HOP.out _ (HK6.out.drew.then k7)⟩
          refine ⟨_, rfl, hS7, ?_⟩
          refine ah_take 12 rfl (by kernel_rfl) (by kernel_rfl) (by kernel_rfl) (fun _ _ _ h => h) (fun _ _ => rfl) hS7 ?_
          (simp only [Act.put, List.setIfInBounds_toArray, List.set_cons_zero, List.set_cons_succ])
          refine ah_take (v := .int .u32 (rr.1 : Int)) 13 rfl (by kernel_rfl) (by kernel_rfl) (by kernel_rfl) (fun _ _ _ h => h) (fun _ _ => rfl) hS7 ?_
          refine ah_take (v := .int .i64 rr.2) 14 rfl (by kernel_rfl) (by kernel_rfl) (by kernel_rfl) (fun _ _ _ h => h) (fun _ _ => rfl) hS7 ?_
          (simp only [Act.put, List.setIfInBounds_toArray, List.set_cons_zero, List.set_cons_succ])
          refine ah_take (v := .int .u32 (rr.1 : Int)) 15 rfl (by kernel_rfl) (by kernel_rfl) (by kernel_rfl) (fun _ _ _ h => h) (fun _ _ => rfl) hS7 ?_
          refine ah_take (v := .int .i64 rr.2) 16 rfl (by kernel_rfl) (by kernel_rfl) (by kernel_rfl) (fun _ _ _ h => h) (fun _ _ => rfl) hS7 ?_
          refine wpAnyH_done (by kernel_rfl) ?_ _
          (simp only [Act.put, List.setIfInBounds_toArray, List.set_cons_zero, List.set_cons_succ])
          have HB7 := Lib.hid ((HB6.out.keep0 ((Keep.refl [] w6).drew)).keep0 k7)
          have HSZ7 := Lib.hid ((HSZ6.out.keep0 ((Keep.refl [] w6).drew)).keep0 k7)
          have HK7 := Lib.hid (HK6.out.drew.then k7)
          clear hS hS0 hS7 k7 hdev hblk hrow HB6 HSZ6 HK6 HRR
          obtain ⟨hdev, A1'', A2'', c1'', c2'', hblk, hrow⟩ := HB7.out
          have HBL := Lib.hid hblk
          have HSM := Lib.hid (same_any w.heap.size g bb1 bb2 A1'' A2'' c1'' c2'' (doS d o) w7 hdev hrow HDO.out)
          clear hdev hblk hrow
          go_wp2_with (refine wpList_load_agg_gd rfl 78 (.tmp 5) rfl rfl (cs := refV (doS d o) A1'' A2'' c1'' c2'') agg_ref ?_ ?_; exact HBL.out.cellsAt)
          refine HSM.out.mono ?_
          rintro e w8 ⟨rfl, k8⟩
          have HF1 := Lib.hid (HB7.out.keep0 k8)
          have HF2 := Lib.hid (HSZ7.out.keep0 k8)
          have HF3 := Lib.hid (HK7.out.then k8)
          clear k8
          rw [← HSU.out] at HF1
          go_wp2_with fail
          go_roundw
          case rel => exact ⟨k + 1, by omega, by go_num, HF1.out, HF2.out, HF3.out⟩
          case measure => simp [intOf] <;> omega
      · have hdv := hboth.dev
        have hok : (plays (newD s q l) (xs.take k)).Ok := plays_ok HO.out _ (fun o ho => hxs o (List.mem_of_mem_take ho))
        obtain ⟨p1, p2, p3⟩ := plays_dims (newD s q l) (xs.take k)
        generalize plays (newD s q l) (xs.take k) = d at *
        have q1 : d.ns = s := p1
        have q2 : d.nw = q := p2
        have q3 : d.lim = l := p3
        have hdr : DevAt wr.drew g bb1 bb2 d := hdv.keep ((Keep.refl [] wr).drew) (by simp) (by simp) (by simp)
        have HC1 := fsectors_any g bb1 bb2 d wr.drew hdr hok
        have HC2 := fwords_any g bb1 bb2 d wr.drew hdr
        have HC3 := flimit_any g bb1 bb2 d wr.drew hdr
        have HC4 := Lib.hid (fsector_none g bb1 bb2 d (-1) wr.drew hdr hok (by omega))
        have HC5 := Lib.hid (fsector_none g bb1 bb2 d s wr.drew hdr hok (by omega))
        have HC6 := fworn_any g bb1 bb2 d (-1) wr.drew hdr hok
        have HC7 := fworn_any g bb1 bb2 d s wr.drew hdr hok
        rw [show wornS d (-1) = 0 by unfold wornS; rw [if_neg (by omega)]] at HC6
        rw [show wornS d (s : Int) = 0 by unfold wornS; rw [if_neg (by omega)]] at HC7
        rw [q1] at HC1
        rw [q2] at HC2
        rw [q3] at HC3
        have G1 := Lib.hid (still_same HC1)
        have G2 := Lib.hid (still_same HC2)
        have G3 := Lib.hid (still_same HC3)
        have G4 := Lib.hid (still_same HC4.out)
        have G5 := Lib.hid (still_same HC5.out)
        have G6 := Lib.hid (still_same HC6)
        have G7 := Lib.hid (still_same HC7)
        have z0 := hsz.cell 0
        have z1 := hsz.cell 1
        have z2 := hsz.cell 2
        simp at z0 z1 z2
        have HKP := Lib.hid hkp
        clear HC1 HC2 HC3 HC4 HC5 HC6 HC7 hdr hok hdv hboth hkp hsz p1 p2 p3 q1 q2 q3 HB3 B3 K3
        go_upto_region 18 with fail
        refine wp_region_still_tail 46 (by kernel_rfl) (by kernel_rfl) ?_
        simp only [List.take_succ_cons, List.take_zero, List.drop_succ_cons, List.drop_zero]
        change wpStill _ _ (World.drew wr) _ _ _
        (repeat still_step)
        still_call G1.out
        (repeat still_step)
        still_call G2.out
        (repeat still_step)
        still_call G3.out
        (repeat still_step)
        still_call G4.out
        (repeat still_step)
        still_call G5.out
        (repeat still_step)
        still_call G6.out
        (repeat still_step)
        still_call G7.out
        (repeat still_step)
        refine wpStill_nil ?_
        change wpList _ _ _ _ _ (World.drew wr)
        go_wp2_with fail
        refine (alive06 _).mono ?_
        rintro e w9 ⟨rfl, k9⟩
        go_wp2_with fail
        go_ret
        exact ⟨rfl, HKP.out.drew.then k9⟩
end Go.Proofs.Ytgonnddgljgghaa
