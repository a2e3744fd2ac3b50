/- The document: the first task that may be late, and within how many ticks nobody is there. Condition: small numbers. -/
import Derived.Test.YtnnnjcgddmhdmaaGreatDoorRef18
namespace Go.Proofs.YtnnnjcgddmhdmaaGreatDoor
open Go.RowKit

set_option maxRecDepth 100000 in
set_option maxHeartbeats 800000 in
theorem rmode_any (v : ImgV) (x : Img) (s : Nat) (w : World) (h : ImgAt w v x) (hs : s < 4294967296) (hx : Small x) :
    Calls Tryz.prog 24 #[.agg (imgCells v x).toArray, .int .u32 (s : Int)] w fun e w' => e = .returned (.int .i64 (rmode x s)) ∧ Keep [] w w' := by
  obtain ⟨W0, hW0⟩ : ∃ W0, w.alloc (.cells (imgCells v x).toArray 26) = W0 := ⟨_, rfl⟩
  have b0 : Blk W0 w.heap.size 26 (imgCells v x).toArray := by rw [← hW0]; exact img_box w v x
  have K0 : Keep [] w W0 := by rw [← hW0]; exact (Keep.refl [] w).alloc _
  have HI1 : Hid (∀ w', Keep [] W0 w' → w'.cell? ⟨w.heap.size, 1, none⟩ = some (.slice v.ta x.tasks.length v.tc) ∧ CellsAt w' w.heap.size 0 (imgCells v x)) := fun w' hk => ⟨img_c1 (b0.keep0 hk), (b0.keep0 hk).cellsAt⟩
  have HH := fun (i : Int) w => Lib.hid (has10_any s i w hs)
  have HRs := fun k hk w' hk' => Lib.hid (rresp_any v x s s s k w' (h.keep0 hk') hs hs hs hx hk)
  have HIC : Hid ((imgCells v x).length = 4) := show _ = _ from rfl
  have hn := hx.n
  have HN := Lib.hid hn
  have HRM : Hid (rmode x s = rmodeFrom x s x.tasks.length 0) := rfl
  clear h hx b0
  generalize imgCells v x = ic at *
  generalize hlt : x.tasks.length = n at *
  have HLT := Lib.hid hlt
  have HW := Lib.hid hW0
  clear hlt hW0
  go_enter Tryz.func24, Tryz.ntmps24
  go_wp2_with (rw [HW.out])
  go_loopw [5] (fun i wr => ∃ k : Nat, k ≤ n ∧ i = .int .i64 k ∧ rmode x s = rmodeFrom x s (n - k) k ∧ Keep [] W0 wr) (fun i _ => n - (intOf i).toNat)
  case atStart => exact ⟨0, Nat.zero_le _, rfl, HRM.out, by first | (rw [HW.out]; exact Keep.refl _ _) | exact Keep.refl _ _⟩
  case round =>
    obtain ⟨k, hk, rfl, hR, hK⟩ := hrel
    obtain ⟨c1, hci⟩ := HI1.out wr hK
    have HCI := Lib.hid hci
    have KK := Lib.hid (K0.then hK)
    have HK := Lib.hid hK
    have hn := HN.out
    clear hK hci
    by_cases hlt : k < n
    · rw [show n - k = (n - (k + 1)) + 1 by omega, rmodeFrom] at hR
      have hHk := HH (k : Int)
      have hRk := HRs k hlt wr KK.out
      generalize rrespM x s s s k = rr at *
      have HR2 := Lib.hid hR
      clear hR
      cases hb : has10 s (k : Int) with
      | false =>
        have HX : Hid (rmode x s = rmodeFrom x s (n - (k + 1)) (k + 1)) := by show _ = _; rw [HR2.out, hb]; rfl
        go_wp2_with fail
        refine (hHk _).out.mono ?_
        rintro e w' ⟨rfl, rfl⟩
        rw [hb]
        go_wp2
        go_roundw
        case rel => exact ⟨k + 1, by omega, by go_num, HX.out, HK.out⟩
        case measure => simp [intOf] <;> omega
      | true =>
        go_wp2_with fail
        refine (hHk _).out.mono ?_
        rintro e w' ⟨rfl, rfl⟩
        rw [hb]
        go_wp2_with (refine wpList_load_agg rfl 26 (.tmp 2) rfl rfl (cs := ic) (by rw [HIC.out]; exact agg_image) HCI.out ?_)
        refine hRk.out.mono ?_
        rintro e w5 ⟨rfl, k5⟩
        have HK5 := Lib.hid (HK.out.then k5)
        clear k5
        cases rr with
        | none =>
          have HX : Hid (rmode x s = (k : Int)) := by show _ = _; rw [HR2.out, hb]; rfl
          rw [numRes_none]
          go_wp2
          go_ret
          exact ⟨by rw [HX.out]; rfl, K0.then HK5.out⟩
        | some q =>
          have HX : Hid (rmode x s = rmodeFrom x s (n - (k + 1)) (k + 1)) := by show _ = _; rw [HR2.out, hb]; rfl
          rw [numRes_some]
          go_wp2
          go_roundw
          case rel => exact ⟨k + 1, by omega, by go_num, HX.out, HK5.out⟩
          case measure => simp [intOf] <;> omega
    · obtain rfl : k = n := by omega
      have HX : Hid (rmode x s = -1) := by show _ = _; rw [hR, Nat.sub_self]; rfl
      clear hR
      go_wp2
      go_ret
      exact ⟨by rw [HX.out]; rfl, KK.out⟩


set_option maxRecDepth 100000 in
set_option maxHeartbeats 1000000 in
theorem rbusy_any (v : ImgV) (x : Img) (s : Nat) (w : World) (h : ImgAt w v x) (hs : s < 4294967296) (hn : x.tasks.length ≤ 16) :
    Calls Tryz.prog 37 #[.agg (imgCells v x).toArray, .int .u32 (s : Int)] w fun e w' => e = .returned (numRes (rbusyM x s)) ∧ Keep [] w w' := by
  have b0 := img_box w v x
  have K0 := (Keep.refl [] w).alloc (.cells (imgCells v x).toArray 26)
  have HAh := fun w' hk' => Lib.hid (ahead_any v x s x.tasks.length w' (h.keep0 hk') hs hn (Nat.le_refl _))
  have htl := aheadK_le x.tasks s x.tasks.length
  have HFL := fun A c n w' hr => Lib.hid (rall_any A c ((aheadK x.tasks s x.tasks.length).map carry) n w' hr (by simp; omega))
  have HIC : Hid ((imgCells v x).length = 4) := show _ = _ from rfl
  have hCI := Lib.hid b0.cellsAt
  have c1 := img_c1 b0
  have HB : Hid (rbusyM x s = rbusyFrom (allM ((aheadK x.tasks s x.tasks.length).map carry)) (65536 + 1 - 1 : Int).toNat 1) := rfl
  clear b0 h
  generalize aheadK x.tasks s x.tasks.length = ts at *
  generalize imgCells v x = ic at *
  go_enter Tryz.func37, Tryz.ntmps37
  go_wp2_with (refine wpList_load_agg rfl 26 (.tmp 2) rfl rfl (cs := ic) (by rw [HIC.out]; exact agg_image) hCI.out ?_)
  refine (HAh _ K0).out.mono ?_
  rintro e w3 ⟨A, c, rfl, o3, k3⟩
  have K3 := K0.then k3
  clear hCI HAh K0 k3 c1
  have HL := Lib.hid htl
  have HN := Lib.hid hn
  clear hn htl
  have htl : ts.length ≤ 16 := by have := HL.out; have := HN.out; omega
  have HT := Lib.hid htl
  go_wp2
  go_loopw [7] (fun i wr => ∃ k : Nat, k ≤ ts.length ∧ i = .int .i64 k ∧ wr.ownsRow w.heap.size 113 4 (.slice A ts.length c) ts.length ((carryK ts k).flatMap trmCells) ∧ Keep [] w wr) (fun i _ => ts.length - (intOf i).toNat)
  case atStart => exact ⟨0, Nat.zero_le _, rfl, by rw [carryK_zero]; exact own_base o3 (by simp), K3⟩
  case round =>
    clear o3 K3
    obtain ⟨k, hk, rfl, hrow, hK⟩ := hrel
    have hl := HT.out
    by_cases hlt : k < ts.length
    · obtain ⟨g, cap, hv, _, hgl⟩ := hrow.form (by omega)
      have e1 : A = some ⟨g, 0, none⟩ ∧ c = cap := by
        injection hv with h1 h2 h3
        exact ⟨h1, h3⟩
      obtain ⟨rfl, rfl⟩ := e1
      have hlow := (hrow.lt g rfl).1
      have hat := carryK_at ts k hlt
      have hkl : k < (carryK ts k).length := by rw [carryK_len]; exact hlt
      have hfa := flat_at (cells := trmCells) (size := 4) (carryK ts k) (fun _ _ => rfl) k
      have hget : (carryK ts k)[k] = ts[k] := by rw [List.getElem?_eq_getElem hkl] at hat; injection hat
      have f1 := hfa 1 hkl (by omega)
      have f3 := hfa 3 hkl (by omega)
      rw [hget] at f1 f3
      have c1 := (hrow.cellAt (k * 4 + 1) (by omega)).trans f1
      have c3 := (hrow.cellAt (k * 4 + 3) (by omega)).trans f3
      have z3 := hrow.frozenAt (k * 4 + 3)
      have st := (hrow.stored (k * 4 + 3) (.int .i64 ts[k].cost)).1
      rw [flat_set (carryK ts k) k ts[k] hkl hat, ← carryK_step ts k hlt] at st
      have kst : Keep [] w (wr.setCell ⟨g, k * 4 + 3, none⟩ (.int .i64 ts[k].cost)) := hK.trans (keep_set wr g (k * 4 + 3) _) (fun y hy hlt => by simp at hy; omega)
      have HST := Lib.hid (And.intro st kst)
      change wr.cell? ⟨g, k * 4 + 1, none⟩ = some (.int .i64 ts[k].cost) at c1
      change wr.cell? ⟨g, k * 4 + 3, none⟩ = some (.int .i64 ts[k].car) at c3
      have p0 : (0 : Int) ≤ (k : Int) := by omega
      have p1 : (k : Int) < (ts.length : Int) := by omega
      clear st kst hat hfa hget f1 f3 hrow hK hkl
      generalize ts[k].cost = tco at *
      generalize ts[k].car = tca at *
      go_wp2
      go_roundw
      case rel => exact ⟨k + 1, by omega, by go_num, HST.out.1, HST.out.2⟩
      case measure => simp [intOf] <;> omega
    · obtain rfl : k = ts.length := by omega
      rw [carryK_all] at hrow
      have hr := Reads.of_own hrow
      have HR := Lib.hid hr
      have hK0 := hK
      have HF := fun n w' (hk : Keep [] wr w') => HFL A c n w' (by have := hr.keep0 hk; simpa using this)
      simp only [List.length_map] at HF
      generalize allM (ts.map carry) = f at *
      clear hrow hr hK HFL
      obtain ⟨wo, hwo⟩ : ∃ wo : World, wo = wr := ⟨_, rfl⟩
      subst hwo
      go_wp2
      go_loopw [8] (fun i wr2 => ∃ v : Int, i = .int .i64 v ∧ 1 ≤ v ∧ rbusyM x s = rbusyFrom f (65536 + 1 - v).toNat v ∧ Keep [] wo wr2) (fun i _ => (65536 + 1 - intOf i).toNat)
      case atStart => exact ⟨1, rfl, by omega, HB.out, Keep.refl _ _⟩
      case round =>
        obtain ⟨v, rfl, hv, hs2, hK2⟩ := hrel
        have HK2 := Lib.hid hK2
        clear hK2
        by_cases hlt2 : v ≤ 65536
        · rw [rbusy_step _ _ hlt2] at hs2
          have HA := Lib.hid (HF v _ HK2.out)
          generalize f v = q at *
          have HY := Lib.hid hs2
          clear hs2
          by_cases hqv : q.getD 0 ≤ v
          · have HZ : Hid (numRes (rbusyM x s) = .tuple #[.int .i64 v, .bool true]) := by show _ = _; rw [HY.out, if_pos hqv]; rfl
            go_wp2_with fail
            refine HA.out.out.mono ?_
            rintro e w5 ⟨rfl, k5⟩
            rw [numRes_eq]
            have K5 := Lib.hid ((hK0.then HK2.out).then k5)
            clear k5
            go_wp2
            go_ret2
            exact ⟨by rw [HZ.out]; rfl, K5.out⟩
          · have HZ : Hid (rbusyM x s = rbusyFrom f (65536 + 1 - q.getD 0).toNat (q.getD 0)) := by show _ = _; rw [HY.out, if_neg hqv]
            have hqv2 : v < q.getD 0 := by omega
            go_wp2_with fail
            refine HA.out.out.mono ?_
            rintro e w5 ⟨rfl, k5⟩
            rw [numRes_eq]
            have K5 := Lib.hid (HK2.out.then k5)
            clear k5 hqv
            go_wp2
            go_roundw
            case rel => exact ⟨q.getD 0, rfl, by omega, HZ.out, K5.out⟩
            case measure => simp [intOf] <;> omega
        · have HY : Hid (numRes (rbusyM x s) = .tuple #[.int .i64 0, .bool false]) := by show _ = _; rw [hs2, rbusy_end _ _ (by omega)]; rfl
          clear hs2
          go_wp2
          go_ret2
          exact ⟨by rw [HY.out]; rfl, hK0.then HK2.out⟩
end Go.Proofs.YtnnnjcgddmhdmaaGreatDoor
