/- Ceilings and blocking, by the document (layer 18). Condition: small numbers. The work ahead of a task, responses, a mode, within how many ticks nobody is there: by the document (layer 18). Condition: small numbers. The document's answers on modes, and on within how many ticks nobody is there (layer 18). Condition: small numbers. -/
import Derived.Test.YtnnnjcgddmhdmaaGreatDoorBlock
import Derived.Test.YtnnnjcgddmhdmaaGreatDoorImgQ
import Derived.Test.YtnnnjcgddmhdmaaGreatDoorMode
namespace Go.Proofs.YtnnnjcgddmhdmaaGreatDoor
open Go.RowKit

/-- The first task behind k others that is in a set and uses a resource. -/
def ceilFrom (l : List Tsk) (s r : Nat) : Nat → List Tsk → Int
  | _, [] => 16
  | k, t :: ts => if has10 s (k : Int) && decide (0 < t.lon.getD r 0) then (k : Int) else ceilFrom l s r (k + 1) ts
def rceil (l : List Tsk) (s r : Nat) : Int := ceilFrom l s r 0 l
theorem ceilFrom_step (l : List Tsk) (s r k : Nat) (h : k < l.length) : ceilFrom l s r k (l.drop k) = if has10 s (k : Int) && decide (0 < l[k].lon.getD r 0) then (k : Int) else ceilFrom l s r (k + 1) (l.drop (k + 1)) := by
  rw [List.drop_eq_getElem_cons h, ceilFrom]
theorem tsk_lonCell {t : Tsk} {r : Nat} (h8 : t.lon.length = 8) (hr : r < 8) : (tskCells t)[3 + r]? = some (.int .i64 (t.lon.getD r 0)) := by
  have e : (tskInts t)[3 + r]? = some (t.lon.getD r 0) := by
    unfold tskInts
    rw [show 3 + r = r + 1 + 1 + 1 by omega]
    simp only [List.getElem?_cons_succ, List.getD_eq_getElem?_getD, List.getElem?_eq_getElem (show r < t.lon.length by omega), Option.getD_some]
  unfold tskCells iv
  rw [List.getElem?_map, e]; rfl

set_option maxRecDepth 100000 in
set_option maxHeartbeats 400000 in
theorem rceil_any (v : ImgV) (x : Img) (s r : Nat) (w : World) (h : ImgAt w v x) (hs : s < 4294967296) (hr : r < 8) :
    Calls Tryz.prog 78 #[.agg (imgCells v x).toArray, .int .u32 (s : Int), .int .i64 (r : Int)] w fun e w' => e = .returned (.int .i64 (rceil x.tasks s r)) ∧ Keep [] w w' := by
  have b0 := img_box w v x
  have K0 := (Keep.refl [] w).alloc (.cells (imgCells v x).toArray 26)
  have HI1 : Hid (∀ w', Keep [] (w.alloc (.cells (imgCells v x).toArray 26)) w' → w'.cell? ⟨w.heap.size, 1, none⟩ = some (.slice v.ta x.tasks.length v.tc)) := fun w' hk => img_c1 (b0.keep0 hk)
  have HI := Lib.hid h
  have hl := h.lt
  unfold maxLen at hl
  have HL := Lib.hid hl
  have HH := fun (i : Int) w => Lib.hid (has10_any s i w hs)
  clear b0 h hl
  generalize imgCells v x = ic at *
  generalize hlt : x.tasks = l at *
  have HLT := Lib.hid hlt
  clear hlt
  go_enter Tryz.func78, Tryz.ntmps78
  go_wp2
  go_loopw [7] (fun i wr => ∃ k : Nat, k ≤ l.length ∧ i = .int .i64 k ∧ rceil l s r = ceilFrom l s r k (l.drop k) ∧ Keep [] (w.alloc (.cells ic.toArray 26)) wr) (fun i _ => l.length - (intOf i).toNat)
  case atStart => exact ⟨0, Nat.zero_le _, rfl, rfl, Keep.refl _ _⟩
  case round =>
    obtain ⟨k, hk, rfl, hR, hK⟩ := hrel
    have c1 := HI1.out wr hK
    have hl := HL.out
    have KK := Lib.hid (K0.then hK)
    have HK := Lib.hid hK
    clear hK
    by_cases hlt : k < l.length
    · rw [ceilFrom_step l s r k hlt] at hR
      obtain ⟨b, o, hA, hbw, hcs⟩ := HI.out.task (by rw [HLT.out]; omega)
      have hl8 := HI.out.ok.lon l[k] (by rw [HLT.out]; exact List.getElem_mem hlt)
      have hz := ((hcs k (by rw [HLT.out]; exact hlt)).keep0 KK.out hbw) (3 + r) (.int .i64 (l[k].lon.getD r 0)) (by
        have := tsk_lonCell hl8 hr
        simp only [HLT.out]; exact this)
      rw [← Nat.add_assoc] at hz
      rw [hA] at c1
      have p0 : (0 : Int) ≤ (k : Int) := by omega
      have p1 : (k : Int) < (l.length : Int) := by omega
      have p2 : (0 : Int) ≤ (r : Int) := by omega
      have p3 : (r : Int) < 8 := by omega
      clear hcs hl8
      generalize l[k].lon.getD r 0 = z at *
      have hHk := HH (k : Int)
      cases hb : has10 s (k : Int) with
      | false =>
        have HX : Hid (rceil l s r = ceilFrom l s r (k + 1) (l.drop (k + 1))) := by show _ = _; rw [hR, hb]; rfl
        clear hR
        go_wp2_with fail
        refine (hHk _).out.mono ?_
        rintro e w' ⟨rfl, rfl⟩
        rw [hb]
        go_wp2
        go_roundw
        case rel => exact ⟨k + 1, by omega, by go_num, HX.out, HK.out⟩
        case measure => simp [intOf] <;> omega
      | true =>
        rcases Int.lt_or_le 0 z with h0 | h0
        · have HX : Hid (rceil l s r = (k : Int)) := by show _ = _; rw [hR, hb, if_pos (by simp; exact h0)]
          clear hR
          go_wp2_with fail
          refine (hHk _).out.mono ?_
          rintro e w' ⟨rfl, rfl⟩
          rw [hb]
          go_wp2
          go_ret
          exact ⟨by rw [HX.out]; rfl, KK.out⟩
        · have HX : Hid (rceil l s r = ceilFrom l s r (k + 1) (l.drop (k + 1))) := by show _ = _; rw [hR, hb, if_neg (by simp; exact h0)]
          clear hR
          go_wp2_with fail
          refine (hHk _).out.mono ?_
          rintro e w' ⟨rfl, rfl⟩
          rw [hb]
          go_wp2
          go_roundw
          case rel => exact ⟨k + 1, by omega, by go_num, HX.out, HK.out⟩
          case measure => simp [intOf] <;> omega
    · obtain rfl : k = l.length := by omega
      have HX : Hid (rceil l s r = 16) := by show _ = _; rw [hR, List.drop_length]; rfl
      clear hR
      go_wp2
      go_ret
      exact ⟨by rw [HX.out]; rfl, KK.out⟩

/-- The longest of those of a set behind a task, among the first k. -/
def rlong (l : List Tsk) (hold r task : Nat) : Nat → Int
  | 0 => 0
  | k + 1 => if task < k ∧ has10 hold (k : Int) = true then max (rlong l hold r task k) ((l.getD k ⟨0, 0, 0, []⟩).lon.getD r 0) else rlong l hold r task k
def rblockTo (l : List Tsk) (hold ceils task : Nat) : Nat → Int
  | 0 => 0
  | r + 1 => rblockTo l hold ceils task r + (if (task : Int) < rceil l ceils r then 0 else rlong l hold r task l.length)
def rblock (l : List Tsk) (hold ceils task : Nat) : Int := rblockTo l hold ceils task 8
theorem rlong_start (l : List Tsk) (hold r task : Nat) : ∀ k, k ≤ task + 1 → rlong l hold r task k = 0
  | 0, _ => rfl
  | k + 1, h => by rw [rlong, if_neg (by omega), rlong_start l hold r task k (by omega)]
theorem rlong_le {x : Img} (h : Small x) (hold r task : Nat) : ∀ k, k ≤ x.tasks.length → 0 ≤ rlong x.tasks hold r task k ∧ rlong x.tasks hold r task k ≤ 4096
  | 0, _ => by simp [rlong]
  | k + 1, hk => by
    have ih := rlong_le h hold r task k (by omega)
    rw [rlong]
    split
    · have hz : 0 ≤ (x.tasks.getD k ⟨0, 0, 0, []⟩).lon.getD r 0 ∧ (x.tasks.getD k ⟨0, 0, 0, []⟩).lon.getD r 0 ≤ 4096 := by
        rw [List.getD_eq_getElem?_getD (l := x.tasks), List.getElem?_eq_getElem (by omega), Option.getD_some, List.getD_eq_getElem?_getD]
        cases hr : x.tasks[k].lon[r]? with
        | none => exact ⟨by simp, by simp⟩
        | some z => exact h.lon _ (List.getElem_mem _) z (List.mem_of_getElem? hr)
      omega
    · exact ih
theorem rblockTo_le {x : Img} (h : Small x) (hold ceils task : Nat) : ∀ r, 0 ≤ rblockTo x.tasks hold ceils task r ∧ rblockTo x.tasks hold ceils task r ≤ 4096 * r
  | 0 => by simp [rblockTo]
  | r + 1 => by
    have ih := rblockTo_le h hold ceils task r
    have h2 := rlong_le h hold r task x.tasks.length (Nat.le_refl _)
    rw [rblockTo]
    push_cast
    split <;> omega

set_option maxRecDepth 100000 in
set_option maxHeartbeats 800000 in
theorem rblock_any (v : ImgV) (x : Img) (hold ceils task : Nat) (w : World) (h : ImgAt w v x) (hh : hold < 4294967296) (hs : ceils < 4294967296) (ht : task < x.tasks.length) (hx : Small x) :
    Calls Tryz.prog 55 #[.agg (imgCells v x).toArray, .int .u32 (hold : Int), .int .u32 (ceils : Int), .int .i64 (task : Int)] w fun e w' => e = .returned (.int .i64 (rblock x.tasks hold ceils task)) ∧ Keep [] w w' := by
  have b0 := img_box w v x
  have K0 := (Keep.refl [] w).alloc (.cells (imgCells v x).toArray 26)
  have HI1 : Hid (∀ w', Keep [] (w.alloc (.cells (imgCells v x).toArray 26)) w' → w'.cell? ⟨w.heap.size, 1, none⟩ = some (.slice v.ta x.tasks.length v.tc) ∧ CellsAt w' w.heap.size 0 (imgCells v x)) := fun w' hk => ⟨img_c1 (b0.keep0 hk), (b0.keep0 hk).cellsAt⟩
  have HI := Lib.hid h
  have hn := hx.n
  have HN := Lib.hid hn
  have HSm := Lib.hid hx
  have HH := fun (i : Int) w => Lib.hid (has10_any hold i w hh)
  have HC := fun r (hr : r < 8) w' hk => Lib.hid (rceil_any v x ceils r w' (h.keep0 hk) hs hr)
  have HIC : Hid ((imgCells v x).length = 4) := show _ = _ from rfl
  clear b0 h hn hx
  generalize imgCells v x = ic at *
  generalize hlt : x.tasks = l at *
  have HLT := Lib.hid hlt
  clear hlt
  go_enter Tryz.func55, Tryz.ntmps55
  go_wp2
  go_loopw [9, 10] (fun a i wr => ∃ r : Nat, r ≤ 8 ∧ i = .int .i64 r ∧ a = .int .i64 (rblockTo l hold ceils task r) ∧ Keep [] (w.alloc (.cells ic.toArray 26)) wr) (fun _ i _ => 8 - (intOf i).toNat)
  case atStart => exact ⟨0, Nat.zero_le _, rfl, rfl, Keep.refl _ _⟩
  case round =>
    obtain ⟨r, hr, rfl, rfl, hK⟩ := hrel
    have hcs := Lib.hid (HI1.out wr hK).2
    have KK := Lib.hid (K0.then hK)
    have HK := Lib.hid hK
    clear hK
    by_cases hr8 : r < 8
    · have hCc := HC r hr8 wr KK.out
      have HB : Hid (rblockTo l hold ceils task (r + 1) = rblockTo l hold ceils task r + (if (task : Int) < rceil l ceils r then 0 else rlong l hold r task l.length)) := rfl
      have hbl := rblockTo_le HSm.out hold ceils task r
      rw [HLT.out] at hbl
      generalize rblockTo l hold ceils task r = a0 at *
      generalize rceil l ceils r = rc at *
      rcases Int.lt_or_le (task : Int) rc with hc | hc
      · have HX : Hid (rblockTo l hold ceils task (r + 1) = a0) := by show _ = _; rw [HB.out, if_pos hc, Int.add_zero]
        go_wp2_with (refine wpList_load_agg rfl 26 (.tmp 4) rfl rfl (cs := ic) (by rw [HIC.out]; exact agg_image) hcs.out ?_)
        refine hCc.out.mono ?_
        rintro e w5 ⟨rfl, k5⟩
        have HK5 := Lib.hid (HK.out.then k5)
        clear k5
        go_wp2
        go_roundw
        case rel => exact ⟨r + 1, by omega, by go_num, by rw [HX.out], HK5.out⟩
        case measure => simp [intOf] <;> omega
      · have HX : Hid (rblockTo l hold ceils task (r + 1) = a0 + rlong l hold r task l.length) := by show _ = _; rw [HB.out, if_neg (by omega)]
        go_wp2_with (refine wpList_load_agg rfl 26 (.tmp 4) rfl rfl (cs := ic) (by rw [HIC.out]; exact agg_image) hcs.out ?_)
        refine hCc.out.mono ?_
        rintro e w5 ⟨rfl, k5⟩
        have HK5 := Lib.hid (HK.out.then k5)
        have HLX : Hid (0 ≤ rlong l hold r task l.length ∧ rlong l hold r task l.length ≤ 4096) := by
          have := rlong_le HSm.out hold r task x.tasks.length (Nat.le_refl _)
          rw [HLT.out] at this
          exact this
        have hn16 := HN.out
        have ht17 : (task : Int) + 1 ≤ 17 := by omega
        clear k5
        go_wp2
        obtain ⟨wo, hwo⟩ : ∃ wo : World, wo = w5 := ⟨_, rfl⟩
        subst hwo
        go_loopw [11, 12] (fun m i wr2 => ∃ k : Nat, task + 1 ≤ k ∧ k ≤ l.length ∧ i = .int .i64 k ∧ m = .int .i64 (rlong l hold r task k) ∧ wr2 = wo) (fun _ i _ => l.length - (intOf i).toNat)
        case atStart => exact ⟨task + 1, Nat.le_refl _, by omega, by go_num, by rw [rlong_start _ _ _ _ _ (Nat.le_refl _)], rfl⟩
        case round =>
          obtain ⟨k, hk1, hk, rfl, rfl, rfl⟩ := hrel
          have c1 := (HI1.out _ HK5.out).1
          by_cases hlt : k < l.length
          · obtain ⟨b, o, hA, hbw, hcs2⟩ := HI.out.task (by rw [HLT.out]; omega)
            have hl8 := HI.out.ok.lon l[k] (by rw [HLT.out]; exact List.getElem_mem hlt)
            have hz := ((hcs2 k (by rw [HLT.out]; exact hlt)).keep0 (K0.then HK5.out) hbw) (3 + r) (.int .i64 (l[k].lon.getD r 0)) (by
              have := tsk_lonCell hl8 hr8
              simp only [HLT.out]; exact this)
            rw [← Nat.add_assoc] at hz
            rw [hA] at c1
            have hst : Hid (rlong l hold r task (k + 1) = if has10 hold (k : Int) = true then max (rlong l hold r task k) (l[k].lon.getD r 0) else rlong l hold r task k) := by
              show _ = _
              rw [rlong, List.getD_eq_getElem?_getD (l := l), List.getElem?_eq_getElem hlt, Option.getD_some]
              by_cases hq : has10 hold (k : Int) = true
              · rw [if_pos ⟨by omega, hq⟩, if_pos hq]
              · rw [if_neg (fun h => hq h.2), if_neg hq]
            have p0 : (0 : Int) ≤ (k : Int) := by omega
            have p1 : (k : Int) < (l.length : Int) := by omega
            have p2 : (0 : Int) ≤ (r : Int) := by omega
            have p3 : (r : Int) < 8 := by omega
            have hHk := HH (k : Int)
            clear hcs2 hl8
            generalize l[k].lon.getD r 0 = z at *
            generalize rlong l hold r task k = m0 at *
            cases hb : has10 hold (k : Int) with
            | false =>
              have HX2 : Hid (rlong l hold r task (k + 1) = m0) := by show _ = _; rw [hst.out, hb]; rfl
              go_wp2_with fail
              refine (hHk _).out.mono ?_
              rintro e w' ⟨rfl, rfl⟩
              rw [hb]
              go_wp2
              go_roundw
              case rel => exact ⟨k + 1, by omega, by omega, by go_num, by rw [HX2.out], by trivial⟩
              case measure => simp [intOf] <;> omega
            | true =>
              rcases Int.lt_or_le m0 z with h0 | h0
              · have HX2 : Hid (rlong l hold r task (k + 1) = z) := by show _ = _; rw [hst.out, hb, if_pos rfl]; omega
                go_wp2_with fail
                refine (hHk _).out.mono ?_
                rintro e w' ⟨rfl, rfl⟩
                rw [hb]
                go_wp2
                go_roundw
                case rel => exact ⟨k + 1, by omega, by omega, by go_num, by rw [HX2.out], by trivial⟩
                case measure => simp [intOf] <;> omega
              · have HX2 : Hid (rlong l hold r task (k + 1) = m0) := by show _ = _; rw [hst.out, hb, if_pos rfl]; omega
                go_wp2_with fail
                refine (hHk _).out.mono ?_
                rintro e w' ⟨rfl, rfl⟩
                rw [hb]
                go_wp2
                go_roundw
                case rel => exact ⟨k + 1, by omega, by omega, by go_num, by rw [HX2.out], by trivial⟩
                case measure => simp [intOf] <;> omega
          · obtain rfl : k = l.length := by omega
            have hm := HLX.out
            generalize rlong l hold r task l.length = m0 at *
            go_wp2
            go_roundw
            case rel => exact ⟨r + 1, by omega, by go_num, by rw [HX.out], HK5.out⟩
            case measure => simp [intOf] <;> omega
    · obtain rfl : r = 8 := by omega
      go_wp2
      go_ret
      exact ⟨rfl, KK.out⟩
end Go.Proofs.YtnnnjcgddmhdmaaGreatDoor

namespace Go.Proofs.YtnnnjcgddmhdmaaGreatDoor
open Go.RowKit

theorem slice_rtrm : SliceOf Tryz.prog 110 113 4 32 := ⟨Tryz.underlying110, by kernel_rfl, by decide⟩
/-- The work of those of a set among the first k. -/
def aheadK (l : List Tsk) (s : Nat) : Nat → List Trm
  | 0 => []
  | k + 1 => aheadK l s k ++ (if has10 s (k : Int) = true then termAt l k else [])
theorem aheadK_le (l : List Tsk) (s : Nat) : ∀ k, (aheadK l s k).length ≤ k
  | 0 => by simp [aheadK]
  | k + 1 => by
    have h1 := aheadK_le l s k
    have h2 := termAt_le l k
    rw [aheadK, List.length_append]
    split <;> simp <;> omega
def RetRTrms (w : World) (l : List Trm) (e : Ending) (w' : World) : Prop :=
  ∃ A c, e = .returned (.slice A l.length c) ∧ w'.ownsRow w.heap.size 113 4 (.slice A l.length c) l.length (l.flatMap trmCells) ∧ Keep [] w w'

set_option maxRecDepth 100000 in
set_option maxHeartbeats 800000 in
theorem ahead_any (v : ImgV) (x : Img) (s task : Nat) (w : World) (h : ImgAt w v x) (hs : s < 4294967296) (hn : x.tasks.length ≤ 16) (ht : task ≤ x.tasks.length) :
    Calls Tryz.prog 56 #[.agg (imgCells v x).toArray, .int .u32 (s : Int), .int .i64 (task : Int)] w (RetRTrms w (aheadK x.tasks s task)) := by
  have b0 := img_box w v x
  obtain ⟨W0, hW0⟩ : ∃ W0, w.alloc (.cells (imgCells v x).toArray 26) = W0 := ⟨_, rfl⟩
  have K0 : Keep [] w W0 := by rw [← hW0]; exact (Keep.refl [] w).alloc _
  have HI1 : Hid (∀ w', Keep [] W0 w' → w'.cell? ⟨w.heap.size, 1, none⟩ = some (.slice v.ta x.tasks.length v.tc)) := fun w' hk => img_c1 (b0.keep0 (hW0 ▸ hk))
  have HI := Lib.hid h
  have HH := fun (i : Int) w => Lib.hid (has10_any s i w hs)
  have hz0 : w.heap.size ≤ W0.heap.size := K0.size
  clear b0 h
  generalize imgCells v x = ic at *
  generalize hlt : x.tasks = l at *
  have HLT := Lib.hid hlt
  have HW := Lib.hid hW0
  clear hlt hW0
  go_enter Tryz.func56, Tryz.ntmps56
  go_wp2_with (rw [HW.out])
  go_loopw [7, 8] (fun o i wr => ∃ k : Nat, k ≤ task ∧ i = .int .i64 k ∧ wr.ownsRow W0.heap.size 113 4 o (aheadK l s k).length ((aheadK l s k).flatMap trmCells) ∧ Keep [] W0 wr) (fun _ i _ => task - (intOf i).toNat)
  case atStart => exact ⟨0, Nat.zero_le _, rfl, World.ownsRow_nil _ _ _ _, by first | (rw [HW.out]; exact Keep.refl _ _) | exact Keep.refl _ _⟩
  case round =>
    obtain ⟨k, hk, rfl, hrow, hK⟩ := hrel
    have c1 := HI1.out wr hK
    have hkl := aheadK_le l s k
    by_cases hlt : k < task
    · have hkn : k < l.length := by omega
      obtain ⟨b, o, hA, hbw, hcs⟩ := HI.out.task (by rw [HLT.out]; omega)
      have hct := (hcs k (by rw [HLT.out]; exact hkn)).keep0 (K0.then hK) hbw
      simp only [HLT.out] at hct
      have hp := hct 0 (.int .i64 l[k].per) rfl
      have hc := hct 2 (.int .i64 l[k].cost) rfl
      rw [Nat.add_zero] at hp
      rw [hA] at c1
      have p0 : (0 : Int) ≤ (k : Int) := by omega
      have p1 : (k : Int) < (l.length : Int) := by omega
      have hHk := HH (k : Int)
      have HT : Hid (termAt l k = [⟨l[k].per, l[k].cost, 0, 0⟩]) := by show _ = _; unfold termAt; rw [List.getElem?_eq_getElem hkn]; rfl
      have hst : Hid (aheadK l s (k + 1) = aheadK l s k ++ (if has10 s (k : Int) = true then termAt l k else [])) := rfl
      have HK := Lib.hid hK
      have HR := Lib.hid hrow
      clear hcs hct hK hrow
      generalize l[k].per = r1 at *
      generalize l[k].cost = r2 at *
      cases hb : has10 s (k : Int) with
      | false =>
        have HX : Hid (aheadK l s (k + 1) = aheadK l s k) := by show _ = _; rw [hst.out, hb]; simp
        go_wp2_with fail
        refine (hHk _).out.mono ?_
        rintro e w' ⟨rfl, rfl⟩
        rw [hb]
        go_wp2
        go_roundw
        case rel => exact ⟨k + 1, by omega, by go_num, by rw [HX.out]; exact HR.out, HK.out⟩
        case measure => simp [intOf] <;> omega
      | true =>
        have HX : Hid (aheadK l s (k + 1) = aheadK l s k ++ [⟨r1, r2, 0, 0⟩]) := by show _ = _; rw [hst.out, hb, if_pos rfl, HT.out]
        have hF : ∀ w', Keep [] wr w' → w'.cell? ⟨w.heap.size, 1, none⟩ = some (.slice (some ⟨b, o, none⟩) l.length v.tc) ∧ w'.cell? ⟨b, o + k * 11, none⟩ = some (.int .i64 r1) ∧ w'.cell? ⟨b, o + k * 11 + 2, none⟩ = some (.int .i64 r2) := fun w' hw =>
          ⟨(hw.cell (p := ⟨w.heap.size, 1, none⟩) (World.block_lt_of_cell? _ _ c1) (by simp)).trans c1, (hw.cell (p := ⟨b, o + k * 11, none⟩) (World.block_lt_of_cell? _ _ hp) (by simp)).trans hp, (hw.cell (p := ⟨b, o + k * 11 + 2, none⟩) (World.block_lt_of_cell? _ _ hc) (by simp)).trans hc⟩
        go_wp2_with fail
        refine (hHk _).out.mono ?_
        rintro e w' ⟨rfl, rfl⟩
        rw [hb]
        go_wp2
        refine ap_begin 15 (Keep [] wr) rfl (Keep.refl _ _).drew (fun hS hPan => ?_) (fun _ _ d _ _ h => by cases d <;> exact h)
        (refine ap_val (v := ?_) 0 rfl (by kernel_rfl) (by kernel_rfl) (by kernel_rfl) (by kernel_rfl) (by rfl) hPan ?_ hS ?_; rotate_left; (intro w' hSw; obtain ⟨f1,f2,f3⟩ := hF w' hSw; go_simp; try with_reducible rfl); simp only [Act.put, List.setIfInBounds_toArray, List.set_cons_zero, List.set_cons_succ])
        (refine ap_val (v := ?_) 1 rfl (by kernel_rfl) (by kernel_rfl) (by kernel_rfl) (by kernel_rfl) (by rfl) hPan ?_ hS ?_; rotate_left; (intro w' hSw; obtain ⟨f1,f2,f3⟩ := hF w' hSw; go_simp; try with_reducible rfl); simp only [Act.put, List.setIfInBounds_toArray, List.set_cons_zero, List.set_cons_succ])
        (refine ap_val (v := ?_) 2 rfl (by kernel_rfl) (by kernel_rfl) (by kernel_rfl) (by kernel_rfl) (by rfl) hPan ?_ hS ?_; rotate_left; (intro w' hSw; obtain ⟨f1,f2,f3⟩ := hF w' hSw; go_simp; try with_reducible rfl); simp only [Act.put, List.setIfInBounds_toArray, List.set_cons_zero, List.set_cons_succ])
        (refine ap_val (v := ?_) 3 rfl (by kernel_rfl) (by kernel_rfl) (by kernel_rfl) (by kernel_rfl) (by rfl) hPan ?_ hS ?_; rotate_left; (intro w' hSw; obtain ⟨f1,f2,f3⟩ := hF w' hSw; go_simp; try with_reducible rfl); simp only [Act.put, List.setIfInBounds_toArray, List.set_cons_zero, List.set_cons_succ])
        (refine ap_val (v := ?_) 4 rfl (by kernel_rfl) (by kernel_rfl) (by kernel_rfl) (by kernel_rfl) (by rfl) hPan ?_ hS ?_; rotate_left; (intro w' hSw; obtain ⟨f1,f2,f3⟩ := hF w' hSw; go_simp; try with_reducible rfl); simp only [Act.put, List.setIfInBounds_toArray, List.set_cons_zero, List.set_cons_succ])
        (refine ap_val (v := ?_) 5 rfl (by kernel_rfl) (by kernel_rfl) (by kernel_rfl) (by kernel_rfl) (by rfl) hPan ?_ hS ?_; rotate_left; (intro w' hSw; obtain ⟨f1,f2,f3⟩ := hF w' hSw; go_simp; try with_reducible rfl); simp only [Act.put, List.setIfInBounds_toArray, List.set_cons_zero, List.set_cons_succ])
        (refine ap_val (v := ?_) 6 rfl (by kernel_rfl) (by kernel_rfl) (by kernel_rfl) (by kernel_rfl) (by rfl) hPan ?_ hS ?_; rotate_left; (intro w' hSw; obtain ⟨f1,f2,f3⟩ := hF w' hSw; go_simp; try with_reducible rfl); simp only [Act.put, List.setIfInBounds_toArray, List.set_cons_zero, List.set_cons_succ])
        (refine ap_val (v := ?_) 7 rfl (by kernel_rfl) (by kernel_rfl) (by kernel_rfl) (by kernel_rfl) (by rfl) hPan ?_ hS ?_; rotate_left; (intro w' hSw; obtain ⟨f1,f2,f3⟩ := hF w' hSw; go_simp; try with_reducible rfl); simp only [Act.put, List.setIfInBounds_toArray, List.set_cons_zero, List.set_cons_succ])
        (refine ap_val (v := ?_) 8 rfl (by kernel_rfl) (by kernel_rfl) (by kernel_rfl) (by kernel_rfl) (by rfl) hPan ?_ hS ?_; rotate_left; (intro w' hSw; obtain ⟨f1,f2,f3⟩ := hF w' hSw; go_simp; try with_reducible rfl); simp only [Act.put, List.setIfInBounds_toArray, List.set_cons_zero, List.set_cons_succ])
        (refine ap_val (v := ?_) 9 rfl (by kernel_rfl) (by kernel_rfl) (by kernel_rfl) (by kernel_rfl) (by rfl) hPan ?_ hS ?_; rotate_left; (intro w' hSw; obtain ⟨f1,f2,f3⟩ := hF w' hSw; go_simp; try with_reducible rfl); simp only [Act.put, List.setIfInBounds_toArray, List.set_cons_zero, List.set_cons_succ])
        (refine ap_val (v := ?_) 10 rfl (by kernel_rfl) (by kernel_rfl) (by kernel_rfl) (by kernel_rfl) (by rfl) hPan ?_ hS ?_; rotate_left; (intro w' hSw; obtain ⟨f1,f2,f3⟩ := hF w' hSw; go_simp; try with_reducible rfl); simp only [Act.put, List.setIfInBounds_toArray, List.set_cons_zero, List.set_cons_succ])
        (refine ap_val (v := ?_) 11 rfl (by kernel_rfl) (by kernel_rfl) (by kernel_rfl) (by kernel_rfl) (by rfl) hPan ?_ hS ?_; rotate_left; (intro w' hSw; obtain ⟨f1,f2,f3⟩ := hF w' hSw; go_simp; try with_reducible rfl); simp only [Act.put, List.setIfInBounds_toArray, List.set_cons_zero, List.set_cons_succ])
        (refine ap_val (v := ?_) 12 rfl (by kernel_rfl) (by kernel_rfl) (by kernel_rfl) (by kernel_rfl) (by rfl) hPan ?_ hS ?_; rotate_left; (intro w' hSw; obtain ⟨f1,f2,f3⟩ := hF w' hSw; go_simp; try with_reducible rfl); simp only [Act.put, List.setIfInBounds_toArray, List.set_cons_zero, List.set_cons_succ])
        (refine ap_val (v := ?_) 13 rfl (by kernel_rfl) (by kernel_rfl) (by kernel_rfl) (by kernel_rfl) (by rfl) hPan ?_ hS ?_; rotate_left; (intro w' hSw; obtain ⟨f1,f2,f3⟩ := hF w' hSw; go_simp; try with_reducible rfl); simp only [Act.put, List.setIfInBounds_toArray, List.set_cons_zero, List.set_cons_succ])
        refine ap_one 14 (by kernel_rfl) ?_
        refine op_run (v := .slice (some ⟨wr.heap.size, 0, none⟩) 1 1) (w' := wr.drew.alloc (.cells #[.int .i64 r1, .int .i64 r2, .int .i64 0, .int .i64 0] 113)) 14 rfl (by rfl) (by go_simp) ?_
        have K3 : Keep [] wr (wr.drew.alloc (.cells #[.int .i64 r1, .int .i64 r2, .int .i64 0, .int .i64 0] 113)) := (Keep.refl [] wr).drew.alloc _
        refine ⟨fun _ => K3, ?_⟩
        have r3 := own_keep0 HR.out K3
        have d3 := Blk.cellsAt (vs := [.int .i64 r1, .int .i64 r2, .int .i64 0, .int .i64 0]) (Blk.new wr.drew 113 _)
        have hB3 : W0.heap.size ≤ (wr.drew.alloc (.cells #[.int .i64 r1, .int .i64 r2, .int .i64 0, .int .i64 0] 113)).heap.size := by have h1 := HK.out.size; have h2 := K3.size; omega
        clear hF hS
        generalize wr.drew.alloc (.cells #[.int .i64 r1, .int .i64 r2, .int .i64 0, .int .i64 0] 113) = w3 at *
        (simp only [Act.put, List.setIfInBounds_toArray, List.set_cons_zero, List.set_cons_succ])
        refine ap_one 15 (by kernel_rfl) ?_
        refine op_app 15 1 (.tmp 24) (.tmp 38) 110 rfl (by rfl) rfl slice_rtrm r3 rfl rfl d3 rfl (by intro u hu; simp at hu; rcases hu with rfl | rfl | rfl | rfl <;> rfl) hB3 (by omega) (by unfold maxLen; omega) ?_
        intro v' w4 o4 k4 _
        refine ⟨fun h => (by cases h), ?_⟩
        have hlt' := fun x hx => (r3.lt x (by simpa using hx)).1
        have K4 : Keep [] W0 w4 := (HK.out.then K3).trans k4 (fun y hy hlt => by have := hlt' y (by simpa using hy); omega)
        (simp only [Act.put, List.setIfInBounds_toArray, List.set_cons_zero, List.set_cons_succ])
        refine ap_one 16 (by kernel_rfl) ?_
        refine op_run (v := v') (w' := w4) 16 rfl (by rfl) (by go_simp) ?_
        refine ⟨fun h => (by cases h), ap_done (by kernel_rfl) ?_ _⟩
        (simp only [Act.put, List.setIfInBounds_toArray, List.set_cons_zero, List.set_cons_succ])
        have O4 : Hid (w4.ownsRow W0.heap.size 113 4 v' (aheadK l s (k + 1)).length ((aheadK l s (k + 1)).flatMap trmCells)) := by
          show World.ownsRow _ _ _ _ _ _ _
          rw [HX.out, List.length_append, List.flatMap_append]
          exact o4
        have HK4 := Lib.hid K4
        clear hPan r3 d3 o4 k4 K4 K3 hlt'
        go_wp2
        go_roundw
        case rel => exact ⟨k + 1, by omega, by go_num, O4.out, HK4.out⟩
        case measure => simp [intOf] <;> omega
    · obtain rfl : k = task := by omega
      obtain ⟨A, c, rfl⟩ := own_shape hrow
      have hor : (k : Int) < (l.length : Int) ∨ (l.length : Int) ≤ (k : Int) := by omega
      rcases hor with ho | ho
      all_goals
        go_wp2
        go_ret
        exact ⟨A, c, rfl, own_base hrow hz0, K0.then hK⟩

/-- Within how many ticks a task's jobs are done, by the document. -/
def rrespM (x : Img) (s hold ceils k : Nat) : Option Int := match x.tasks[k]? with
  | some t => leastR (t.cost + rblock x.tasks hold ceils k) t.ded (allM (aheadK x.tasks s k))
  | none => none
set_option maxRecDepth 100000 in
set_option maxHeartbeats 1000000 in
theorem rresp_any (v : ImgV) (x : Img) (s hold ceils k : Nat) (w : World) (h : ImgAt w v x) (hs : s < 4294967296) (hh : hold < 4294967296) (hc : ceils < 4294967296) (hx : Small x) (hk : k < x.tasks.length) :
    Calls Tryz.prog 35 #[.agg (imgCells v x).toArray, .int .u32 (s : Int), .int .u32 (hold : Int), .int .u32 (ceils : Int), .int .i64 (k : Int)] w fun e w' => e = .returned (numRes (rrespM x s hold ceils k)) ∧ Keep [] w w' := by
  have hn := hx.n
  obtain ⟨W0, hW0⟩ : ∃ W0, w.alloc (.cells (imgCells v x).toArray 26) = W0 := ⟨_, rfl⟩
  have b0 : Blk W0 w.heap.size 26 (imgCells v x).toArray := by rw [← hW0]; exact img_box w v x
  have K0 : Keep [] w W0 := by rw [← hW0]; exact (Keep.refl [] w).alloc _
  have HI1 := img_c1 b0
  have hz0 : w.heap.size < W0.heap.size := by rw [← hW0]; simp
  obtain ⟨b, o, hA, hbw, hcs2⟩ := h.task (by omega)
  have hl8 := h.ok.lon _ (List.getElem_mem hk)
  have hct := (hcs2 k hk).keep0 K0 hbw
  have HR : Hid (numRes (rrespM x s hold ceils k) = numRes (leastR (x.tasks[k].cost + rblock x.tasks hold ceils k) x.tasks[k].ded (allM (aheadK x.tasks s k)))) := by
    show _ = _
    unfold rrespM
    rw [List.getElem?_eq_getElem hk]
  have HBl := fun w' hk' => Lib.hid (rblock_any v x hold ceils k w' (h.keep0 hk') hh hc hk hx)
  have HAh := fun w' hk' => Lib.hid (ahead_any v x s k w' (h.keep0 hk') hs hn (Nat.le_of_lt hk))
  have hbb := rblockTo_le hx hold ceils k 8
  have hcost := hx.cost _ (List.getElem_mem hk)
  have hded := hx.ded _ (List.getElem_mem hk)
  have htl := aheadK_le x.tasks s k
  have HFL := fun A c w' hr => Lib.hid (rleast_any A c (aheadK x.tasks s k) (x.tasks[k].cost + rblock x.tasks hold ceils k) x.tasks[k].ded w' hr (by omega) (by omega))
  have HTL : Hid ((tskCells x.tasks[k]).length = 11) := tskCells_len hl8
  have g1 : (tskCells x.tasks[k])[1]? = some (.int .i64 x.tasks[k].ded) := rfl
  have g2 : (tskCells x.tasks[k])[2]? = some (.int .i64 x.tasks[k].cost) := rfl
  have HG := Lib.hid (And.intro g1 g2)
  have hone : Hid (∀ u ∈ tskCells x.tasks[k], u.oneCell' = true) := iv_one (tskInts x.tasks[k])
  have HIC : Hid ((imgCells v x).length = 4) := show _ = _ from rfl
  have hCI := Lib.hid b0.cellsAt
  have HCC := Lib.hid hct
  rw [hA] at HI1
  have p0 : (0 : Int) ≤ (k : Int) := by omega
  have p1 : (k : Int) < (x.tasks.length : Int) := by omega
  change 0 ≤ rblock x.tasks hold ceils k ∧ rblock x.tasks hold ceils k ≤ 4096 * (8 : Nat) at hbb
  clear h hx hcs2 hct g1 g2 b0
  generalize rblock x.tasks hold ceils k = bm at *
  generalize aheadK x.tasks s k = ts at *
  generalize x.tasks[k] = tk at *
  generalize tskCells tk = tc2 at *
  generalize tk.cost = tco at *
  generalize tk.ded = tde at *
  generalize imgCells v x = ic at *
  have HW := Lib.hid hW0
  clear hW0
  go_enter Tryz.func35, Tryz.ntmps35
  go_wp2_with (first
    | rw [HW.out]
    | (refine wpList_load_agg rfl 33 (.tmp 16) rfl rfl (cs := tc2) (by rw [HTL.out]; exact agg_task) HCC.out ?_)
    | (refine stop_store 33 (.tmp 12) (.tmp 17) rfl ?_))
  constructor
  refine wpList_store_all rfl 33 (.tmp 12) (.tmp 17) rfl rfl rfl (vs := tc2) (by rw [HTL.out]; exact agg_task.2) (Blk.new _ _ _) hone.out (by rw [HTL.out]; rfl) ?_
  intro w2 d2 k2
  have K2 : Keep [] W0 w2 := ((Keep.refl [] W0).alloc _).trans k2 (fun y hy hlt => by simp at hy; omega)
  have KW2 := Lib.hid (K0.then K2)
  have ci2 : Hid (∀ w', Keep [] w2 w' → CellsAt w' w.heap.size 0 ic) := fun w' hw => hCI.out.keep0 (K2.then hw) hz0
  have D2 := Lib.hid d2
  have hF : ∀ w', Keep [] w2 w' → w'.cell? ⟨W0.heap.size, 1, none⟩ = some (.int .i64 tde) ∧ w'.cell? ⟨W0.heap.size, 2, none⟩ = some (.int .i64 tco) := fun w' hw =>
    ⟨(D2.out.keep0 hw).at_ HG.out.1, (D2.out.keep0 hw).at_ HG.out.2⟩
  clear k2 K2 d2
  go_wp2
  refine ap_begin 18 (Keep [] w2) rfl (Keep.refl _ _).drew (fun hS hPan => ?_) (fun _ _ d _ _ h => by cases d <;> exact h)
  (refine ap_val (v := ?_) 0 rfl (by kernel_rfl) (by kernel_rfl) (by kernel_rfl) (by kernel_rfl) (by rfl) hPan ?_ hS ?_; rotate_left; (intro w' hSw; obtain ⟨f1,f2⟩ := hF w' hSw; go_simp; try with_reducible rfl); simp only [Act.put, List.setIfInBounds_toArray, List.set_cons_zero, List.set_cons_succ])
  (refine ap_val (v := ?_) 1 rfl (by kernel_rfl) (by kernel_rfl) (by kernel_rfl) (by kernel_rfl) (by rfl) hPan ?_ hS ?_; rotate_left; (intro w' hSw; obtain ⟨f1,f2⟩ := hF w' hSw; go_simp; try with_reducible rfl); simp only [Act.put, List.setIfInBounds_toArray, List.set_cons_zero, List.set_cons_succ])
  refine ap_agg 2 26 (.tmp 5) ic rfl (by kernel_rfl) (by kernel_rfl) (by kernel_rfl) (by kernel_rfl) (by rfl) hPan rfl rfl (by rw [HIC.out]; exact agg_image) ci2.out hS ?_
  (simp only [Act.put, List.setIfInBounds_toArray, List.set_cons_zero, List.set_cons_succ])
  (refine ap_val (v := ?_) 3 rfl (by kernel_rfl) (by kernel_rfl) (by kernel_rfl) (by kernel_rfl) (by rfl) hPan ?_ hS ?_; rotate_left; (intro w' hSw; obtain ⟨f1,f2⟩ := hF w' hSw; go_simp; try with_reducible rfl); simp only [Act.put, List.setIfInBounds_toArray, List.set_cons_zero, List.set_cons_succ])
  (refine ap_val (v := ?_) 4 rfl (by kernel_rfl) (by kernel_rfl) (by kernel_rfl) (by kernel_rfl) (by rfl) hPan ?_ hS ?_; rotate_left; (intro w' hSw; obtain ⟨f1,f2⟩ := hF w' hSw; go_simp; try with_reducible rfl); simp only [Act.put, List.setIfInBounds_toArray, List.set_cons_zero, List.set_cons_succ])
  (refine ap_val (v := ?_) 5 rfl (by kernel_rfl) (by kernel_rfl) (by kernel_rfl) (by kernel_rfl) (by rfl) hPan ?_ hS ?_; rotate_left; (intro w' hSw; obtain ⟨f1,f2⟩ := hF w' hSw; go_simp; try with_reducible rfl); simp only [Act.put, List.setIfInBounds_toArray, List.set_cons_zero, List.set_cons_succ])
  (refine ap_val (v := ?_) 8 rfl (by kernel_rfl) (by kernel_rfl) (by kernel_rfl) (by kernel_rfl) (by rfl) hPan ?_ hS ?_; rotate_left; (intro w' hSw; obtain ⟨f1,f2⟩ := hF w' hSw; go_simp; try with_reducible rfl); simp only [Act.put, List.setIfInBounds_toArray, List.set_cons_zero, List.set_cons_succ])
  (refine ap_val (v := ?_) 9 rfl (by kernel_rfl) (by kernel_rfl) (by kernel_rfl) (by kernel_rfl) (by rfl) hPan ?_ hS ?_; rotate_left; (intro w' hSw; obtain ⟨f1,f2⟩ := hF w' hSw; go_simp; try with_reducible rfl); simp only [Act.put, List.setIfInBounds_toArray, List.set_cons_zero, List.set_cons_succ])
  refine ap_agg 10 26 (.tmp 5) ic rfl (by kernel_rfl) (by kernel_rfl) (by kernel_rfl) (by kernel_rfl) (by rfl) hPan rfl rfl (by rw [HIC.out]; exact agg_image) ci2.out hS ?_
  (simp only [Act.put, List.setIfInBounds_toArray, List.set_cons_zero, List.set_cons_succ])
  (refine ap_val (v := ?_) 11 rfl (by kernel_rfl) (by kernel_rfl) (by kernel_rfl) (by kernel_rfl) (by rfl) hPan ?_ hS ?_; rotate_left; (intro w' hSw; obtain ⟨f1,f2⟩ := hF w' hSw; go_simp; try with_reducible rfl); simp only [Act.put, List.setIfInBounds_toArray, List.set_cons_zero, List.set_cons_succ])
  (refine ap_val (v := ?_) 12 rfl (by kernel_rfl) (by kernel_rfl) (by kernel_rfl) (by kernel_rfl) (by rfl) hPan ?_ hS ?_; rotate_left; (intro w' hSw; obtain ⟨f1,f2⟩ := hF w' hSw; go_simp; try with_reducible rfl); simp only [Act.put, List.setIfInBounds_toArray, List.set_cons_zero, List.set_cons_succ])
  refine ap_one 6 (by kernel_rfl) ?_
  refine op_call (f := 55) (vs := #[.agg ic.toArray, .int .u32 (hold : Int), .int .u32 (ceils : Int), .int .i64 (k : Int)]) 6 rfl (by rfl) rfl (by simp only [List.map_toArray, List.map_cons, List.map_nil]; rfl) Tryz.func55 (by kernel_rfl) (by kernel_rfl) (HBl _ (KW2.out.then hS)).out ?_
  rintro e w5 ⟨rfl, k5⟩
  have hS5 := hS.then k5
  refine ⟨_, rfl, fun _ => hS5, ?_⟩
  clear k5 hS
  have hS := hS5
  clear hS5
  (simp only [Act.put, List.setIfInBounds_toArray, List.set_cons_zero, List.set_cons_succ])
  have hwr : IntKind.i64.wrap (tco + bm) = tco + bm := IntWalk.i64_in _ (by omega)
  (refine ap_val (v := ?_) 7 rfl (by kernel_rfl) (by kernel_rfl) (by kernel_rfl) (by kernel_rfl) (by rfl) hPan ?_ hS ?_; rotate_left; (intro w' hSw; obtain ⟨f1,f2⟩ := hF w' hSw; go_simp; try with_reducible rfl); simp only [Act.put, List.setIfInBounds_toArray, List.set_cons_zero, List.set_cons_succ])
  clear hwr
  refine ap_one 13 (by kernel_rfl) ?_
  refine op_call (f := 56) (vs := #[.agg ic.toArray, .int .u32 (s : Int), .int .i64 (k : Int)]) 13 rfl (by rfl) rfl (by simp only [List.map_toArray, List.map_cons, List.map_nil]; rfl) Tryz.func56 (by kernel_rfl) (by kernel_rfl) (HAh _ (KW2.out.then hS)).out ?_
  rintro e w6 ⟨A6, c6, rfl, o6, k6⟩
  have hS6 := hS.then k6
  have HL6 := HFL A6 c6 _ (Reads.of_own o6)
  refine ⟨_, rfl, fun _ => hS6, ?_⟩
  clear o6 k6 hS
  have hS := hS6
  clear hS6
  (simp only [Act.put, List.setIfInBounds_toArray, List.set_cons_zero, List.set_cons_succ])
  refine ap_one 14 (by kernel_rfl) ?_
  refine op_call (f := 54) (vs := #[.int .i64 (tco + bm), .int .i64 tde, .slice A6 ts.length c6]) 14 rfl (by rfl) rfl (by simp only [List.map_toArray, List.map_cons, List.map_nil]; rfl) Tryz.func54 (by kernel_rfl) (by kernel_rfl) HL6.out ?_
  rintro e w7 ⟨rfl, k7⟩
  have hS7 := hS.then k7
  refine ⟨_, rfl, fun _ => hS7, ?_⟩
  clear k7 hS
  have hS := hS7
  clear hS7
  rw [numRes_eq]
  rw [numRes_eq (leastR _ _ _)] at HR
  generalize leastR (tco + bm) tde (allM ts) = rs at *
  (simp only [Act.put, List.setIfInBounds_toArray, List.set_cons_zero, List.set_cons_succ])
  (refine ap_val (v := ?_) 15 rfl (by kernel_rfl) (by kernel_rfl) (by kernel_rfl) (by kernel_rfl) (by rfl) hPan ?_ hS ?_; rotate_left; (intro w' hSw; obtain ⟨f1,f2⟩ := hF w' hSw; go_simp; try with_reducible rfl); simp only [Act.put, List.setIfInBounds_toArray, List.set_cons_zero, List.set_cons_succ])
  (refine ap_val (v := ?_) 16 rfl (by kernel_rfl) (by kernel_rfl) (by kernel_rfl) (by kernel_rfl) (by rfl) hPan ?_ hS ?_; rotate_left; (intro w' hSw; obtain ⟨f1,f2⟩ := hF w' hSw; go_simp; try with_reducible rfl); simp only [Act.put, List.setIfInBounds_toArray, List.set_cons_zero, List.set_cons_succ])
  (refine ap_val (v := ?_) 17 rfl (by kernel_rfl) (by kernel_rfl) (by kernel_rfl) (by kernel_rfl) (by rfl) hPan ?_ hS ?_; rotate_left; (intro w' hSw; obtain ⟨f1,f2⟩ := hF w' hSw; go_simp; try with_reducible rfl); simp only [Act.put, List.setIfInBounds_toArray, List.set_cons_zero, List.set_cons_succ])
  refine ap_one 18 (by kernel_rfl) ?_
  refine op_run (v := .bool rs.isSome) (w' := w7) 18 rfl (by rfl) (by go_simp) ?_
  refine ⟨fun _ => hS, ap_done (by kernel_rfl) ?_ _⟩
  (simp only [Act.put, List.setIfInBounds_toArray, List.set_cons_zero, List.set_cons_succ])
  have HS := Lib.hid hS
  clear hS hPan hF HL6
  go_wp2
  go_ret2
  exact ⟨by rw [HR.out]; rfl, KW2.out.then HS.out⟩
end Go.Proofs.YtnnnjcgddmhdmaaGreatDoor

namespace Go.Proofs.YtnnnjcgddmhdmaaGreatDoor
open Go.RowKit

/-- The first task of a set behind k others that may be late. -/
def rmodeFrom (x : Img) (s : Nat) : Nat → Nat → Int
  | 0, _ => -1
  | j + 1, k => if has10 s (k : Int) && (rrespM x s s s k).isNone then (k : Int) else rmodeFrom x s j (k + 1)
def rmode (x : Img) (s : Nat) : Int := rmodeFrom x s x.tasks.length 0
/-- Round by round, till no more comes than there is time. -/
def rbusyFrom (f : Int → Option Int) : Nat → Int → Option Int
  | 0, _ => none
  | k + 1, w => if w ≤ 65536 then (if (f w).getD 0 ≤ w then some w else rbusyFrom f k ((f w).getD 0)) else none
def rbusyM (x : Img) (s : Nat) : Option Int := rbusyFrom (allM ((aheadK x.tasks s x.tasks.length).map carry)) 65536 1
theorem rbusy_fuel (f : Int → Option Int) : ∀ (k j : Nat) (w : Int), 65536 + 1 - w ≤ k → 65536 + 1 - w ≤ j → rbusyFrom f k w = rbusyFrom f j w
  | 0, 0, _, _, _ => rfl
  | 0, j + 1, w, h1, _ => by rw [rbusyFrom, rbusyFrom, if_neg (by omega)]
  | k + 1, 0, w, _, h2 => by rw [rbusyFrom, rbusyFrom, if_neg (by omega)]
  | k + 1, j + 1, w, h1, h2 => by
    rw [rbusyFrom, rbusyFrom]
    split
    · split
      · rfl
      · exact rbusy_fuel f k j _ (by omega) (by omega)
    · rfl
theorem rbusy_step (f : Int → Option Int) (w : Int) (h : w ≤ 65536) :
    rbusyFrom f (65536 + 1 - w).toNat w = if (f w).getD 0 ≤ w then some w else rbusyFrom f (65536 + 1 - (f w).getD 0).toNat ((f w).getD 0) := by
  rw [show (65536 + 1 - w).toNat = (65536 - w).toNat + 1 by omega, rbusyFrom, if_pos h]
  split
  · rfl
  · exact rbusy_fuel f _ _ _ (by omega) (by omega)
theorem rbusy_end (f : Int → Option Int) (w : Int) (h : 65536 < w) : rbusyFrom f (65536 + 1 - w).toNat w = none := by
  rw [show (65536 + 1 - w).toNat = 0 by omega, rbusyFrom]

end Go.Proofs.YtnnnjcgddmhdmaaGreatDoor
