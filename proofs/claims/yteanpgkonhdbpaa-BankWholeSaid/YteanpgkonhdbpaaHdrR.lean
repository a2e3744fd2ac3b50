/- header.NextTrial, and the document's header (ref07): At, two, Read, walked. Condition: rows of at most 100,000 words. -/
import Derived.Test.YteanpgkonhdbpaaHdr
import Derived.Test.YteanpgkonhdbpaaJrEntry
namespace Go.Proofs.Yteanpgkonhdbpaa
open Go.RowKit

/-- Where the next trial's word is, of those from one on. -/
def nextTr (l : List Nat) (n : Nat) : Nat → Nat → Option Nat
  | 0, _ => none
  | f + 1, k => if n ≤ 10 + k ∨ atH l (10 + k) = 4294967295 then some (10 + k) else nextTr l n f (k + 1)

set_option maxRecDepth 100000 in
set_option maxHeartbeats 1000000 in
theorem rat_any7 (A : Option Addr) (n c : Nat) (l : List Nat) (i : Nat) (w : World) (hl : l.length = n) (hr : Reads w 1 A n (wordsV l)) (hi : i ≤ 100) :
    Calls Try.prog 123 #[.slice A n c, .int .i64 (i : Int)] w fun e w' => e = .returned (.int .u32 ((atH l i : Nat) : Int)) ∧ w = w' := by
  have HR := Lib.hid hr
  by_cases hlt : i < n
  · have hil : i < l.length := by omega
    obtain ⟨b, o, rfl, hb, hcs⟩ := HR.out.addr (by omega)
    have hx : w.cell? ⟨b, o + i, none⟩ = some (.int .u32 ((atH l i : Nat) : Int)) := hcs i _ (by rw [List.getElem?_map, List.getElem?_eq_getElem hil]; simp [atH, hil])
    have q0 : decide ((i : Int) < (n : Int)) = true := decide_eq_true (by omega)
    have p0 : (i < n) = True := eq_true hlt
    have q1 : (0 : Int) ≤ (i : Int) := by omega
    have q2 : (i : Int) < (n : Int) := by omega
    generalize atH l i = x at *
    clear hr hcs
    go_enter Try.func123, Try.ntmps123
    go_wp2
    go_ret
    exact ⟨rfl, rfl⟩
  · have hx : Hid (atH l i = 4294967295) := by show _ = _; unfold atH; rw [List.getD_eq_getElem?_getD, List.getElem?_eq_none (by omega)]; rfl
    have q0 : decide ((i : Int) < (n : Int)) = false := decide_eq_false (by omega)
    have p0 : (i < n) = False := eq_false hlt
    clear hr
    go_enter Try.func123, Try.ntmps123
    go_wp2
    go_ret
    rw [hx.out]
    exact ⟨rfl, rfl⟩

set_option maxRecDepth 100000 in
set_option maxHeartbeats 1000000 in
theorem rtwo_any7 (A : Option Addr) (n c : Nat) (l : List Nat) (i : Nat) (w : World) (hl : l.length = n) (h32 : ∀ x ∈ l, x < 4294967296) (hr : Reads w 1 A n (wordsV l)) (hi : i ≤ 90) :
    Calls Try.prog 126 #[.slice A n c, .int .i64 (i : Int)] w fun e w' => e = .returned (.bool (twoH l i)) ∧ w = w' := by
  have hw1 : IntKind.i64.wrap ((i : Int) + 1) = ((i + 1 : Nat) : Int) := by rw [show (i : Int) + 1 = ((i + 1 : Nat) : Int) by omega]; exact IntWalk.i64_in _ (by omega)
  have HA1 := Lib.hid (rat_any7 A n c l (i + 1) w hl hr (by omega))
  have HA0 := Lib.hid (rat_any7 A n c l i w hl hr (by omega))
  have HO := Lib.hid (other_any (atH l i) w (atH_lt h32 i))
  have hq := nat_beq (atH l (i + 1)) (cplJ (atH l i))
  have HT : Hid (twoH l i = (atH l (i + 1) == cplJ (atH l i))) := show _ = _ from rfl
  generalize twoH l i = t at *
  generalize atH l (i + 1) = x at *
  generalize atH l i = y at *
  clear hr h32
  go_enter Try.func126, Try.ntmps126
  go_wp2_with fail
  refine HA1.out.mono ?_
  rintro e w' ⟨rfl, rfl⟩
  go_wp2_with fail
  refine HA0.out.mono ?_
  rintro e w' ⟨rfl, rfl⟩
  go_wp2_with fail
  refine HO.out.mono ?_
  rintro e w' ⟨rfl, rfl⟩
  go_wp2
  go_ret
  rw [HT.out]
  exact ⟨rfl, rfl⟩

set_option maxRecDepth 100000 in
set_option maxHeartbeats 4000000 in
theorem rhread_any (A : Option Addr) (n c : Nat) (l : List Nat) (w : World) (hl : l.length = n) (h32 : ∀ x ∈ l, x < 4294967296) (hr : Reads w 1 A n (wordsV l)) :
    Calls Try.prog 86 #[.slice A n c] w fun e w' => e = .returned (.agg (hdCells (headH l)).toArray) ∧ Keep [] w w' := by
  have HA : Hid (AggOf Try.prog 145 6) := ⟨by kernel_rfl, by kernel_rfl⟩
  have HAT : Hid (∀ i : Nat, i ≤ 100 → ∀ W, Keep [] w W → Calls Try.prog 123 #[.slice A n c, .int .i64 (i : Int)] W fun e w' => e = .returned (.int .u32 ((atH l i : Nat) : Int)) ∧ W = w') := fun i hi W hk => rat_any7 A n c l i W hl (hr.keep0 hk) hi
  have HTW : Hid (∀ i : Nat, i ≤ 90 → ∀ W, Keep [] w W → Calls Try.prog 126 #[.slice A n c, .int .i64 (i : Int)] W fun e w' => e = .returned (.bool (twoH l i)) ∧ W = w') := fun i hi W hk => rtwo_any7 A n c l i W hl h32 (hr.keep0 hk) hi
  have HT0 : Hid (∀ W, Keep [] w W → Calls Try.prog 126 #[.slice A n c, .int .i64 0] W fun e w' => e = .returned (.bool (twoH l 0)) ∧ W = w') := HTW.out 0 (by decide)
  have HT2 : Hid (∀ W, Keep [] w W → Calls Try.prog 126 #[.slice A n c, .int .i64 2] W fun e w' => e = .returned (.bool (twoH l 2)) ∧ W = w') := HTW.out 2 (by decide)
  have HT4 : Hid (∀ W, Keep [] w W → Calls Try.prog 126 #[.slice A n c, .int .i64 4] W fun e w' => e = .returned (.bool (twoH l 4)) ∧ W = w') := HTW.out 4 (by decide)
  have HT6 : Hid (∀ W, Keep [] w W → Calls Try.prog 126 #[.slice A n c, .int .i64 6] W fun e w' => e = .returned (.bool (twoH l 6)) ∧ W = w') := HTW.out 6 (by decide)
  have HT8 : Hid (∀ W, Keep [] w W → Calls Try.prog 126 #[.slice A n c, .int .i64 8] W fun e w' => e = .returned (.bool (twoH l 8)) ∧ W = w') := HTW.out 8 (by decide)
  have HA0 : Hid (∀ W, Keep [] w W → Calls Try.prog 123 #[.slice A n c, .int .i64 0] W fun e w' => e = .returned (.int .u32 ((atH l 0 : Nat) : Int)) ∧ W = w') := HAT.out 0 (by decide)
  have HA2 : Hid (∀ W, Keep [] w W → Calls Try.prog 123 #[.slice A n c, .int .i64 2] W fun e w' => e = .returned (.int .u32 ((atH l 2 : Nat) : Int)) ∧ W = w') := HAT.out 2 (by decide)
  have HA4 : Hid (∀ W, Keep [] w W → Calls Try.prog 123 #[.slice A n c, .int .i64 4] W fun e w' => e = .returned (.int .u32 ((atH l 4 : Nat) : Int)) ∧ W = w') := HAT.out 4 (by decide)
  have HA6 : Hid (∀ W, Keep [] w W → Calls Try.prog 123 #[.slice A n c, .int .i64 6] W fun e w' => e = .returned (.int .u32 ((atH l 6 : Nat) : Int)) ∧ W = w') := HAT.out 6 (by decide)
  have HA8 : Hid (∀ W, Keep [] w W → Calls Try.prog 123 #[.slice A n c, .int .i64 8] W fun e w' => e = .returned (.int .u32 ((atH l 8 : Nat) : Int)) ∧ W = w') := HAT.out 8 (by decide)
  have HL32 : Hid (∀ i, atH l i < 4294967296) := fun i => atH_lt h32 i
  obtain ⟨W0, hW⟩ : ∃ W0, (w.alloc (.cells #[.int .u32 0, .int .u32 0, .int .u32 0, .bool false, .bool false, .int .i64 0] 145)).alloc (.cells #[.int .u32 0, .int .u32 0, .int .u32 0, .bool false, .bool false, .int .i64 0] 145) = W0 := ⟨_, rfl⟩
  have K0 : Keep [] w W0 := by rw [← hW]; exact ((Keep.refl [] w).alloc _).alloc _
  have B2 : Blk W0 w.heap.size 145 #[.int .u32 0, .int .u32 0, .int .u32 0, .bool false, .bool false, .int .i64 0] := by rw [← hW]; exact (Blk.new _ _ _).alloc _
  have B3 : Blk W0 (w.heap.size + 1) 145 #[.int .u32 0, .int .u32 0, .int .u32 0, .bool false, .bool false, .int .i64 0] := by
    rw [← hW]
    have h := Blk.new (w.alloc (.cells #[.int .u32 0, .int .u32 0, .int .u32 0, .bool false, .bool false, .int .i64 0] 145)) 145 #[.int .u32 0, .int .u32 0, .int .u32 0, .bool false, .bool false, .int .i64 0]
    simpa using h
  have HW := Lib.hid hW
  have HB2 := Lib.hid B2
  have HK0 := Lib.hid K0
  clear hr hl h32 hW HTW B2
  go_enter Try.func86, Try.ntmps86
  go_wp2_with (refine stop_store 145 (.tmp 3) (.tmp 5) rfl ?_)
  constructor
  rw [HW.out]
  refine wpList_store_all rfl 145 (.tmp 3) (.tmp 5) rfl rfl rfl (t := 145) (cs := #[.int .u32 0, .int .u32 0, .int .u32 0, .bool false, .bool false, .int .i64 0]) (vs := [.int .u32 0, .int .u32 0, .int .u32 0, .bool false, .bool false, .int .i64 0]) HA.out.2 B3 (by simp [Value.oneCell']) rfl ?_
  intro w1 d1 k1
  have hl3 := d1.lt
  have HB3 := Lib.hid d1
  have HB21 := Lib.hid (HB2.out.keep k1 (by simp))
  have HK1 : Hid (Keep [] w w1) := K0.trans k1 (fun y hy hl => by simp only [List.mem_cons, List.not_mem_nil, or_false] at hy; omega)
  have HLO : Hid (w.heap.size < w.heap.size + 1) := Nat.lt_succ_self _
  clear HW B3 K0 d1 k1 HB2
  have HNE : Hid (w.heap.size ≠ w.heap.size + 1 ∧ w.heap.size ≤ w.heap.size + 1) := ⟨by omega, by omega⟩
  generalize w.heap.size + 1 = B3 at *
  go_upto_region 2 with fail
  simp only [Act.put]
  go_cut [4] from 5 (fun _ wx => Blk wx B3 145 #[.int .u32 0, .int .u32 0, .int .u32 0, .bool (validH l), .bool false, .int .i64 0] ∧ Keep [B3] w1 wx)
  case first =>
    have c3 : w1.cell? ⟨B3, 3, none⟩ = some (.bool false) := HB3.out.cell 3
    have f3 := HB3.out.frozen 3
    go_wp2_with fail
    refine (HT0.out w1 HK1.out).mono ?_
    rintro e w' ⟨rfl, rfl⟩
    cases h0 : twoH l 0 with
    | false =>
      have hv : validH l = false := by unfold validH; simp [h0]
      have HB9 : Hid (Blk (w1.setCell ⟨B3, 3, none⟩ (.bool false)) B3 145 #[.int .u32 0, .int .u32 0, .int .u32 0, .bool (validH l), .bool false, .int .i64 0]) := by rw [hv]; exact HB3.out.set_ 3 _
      have HK9 : Hid (Keep [B3] w1 (w1.setCell ⟨B3, 3, none⟩ (.bool false))) := keep_set _ B3 3 _
      go_wp2_with fail
      go_meet
      case rel => exact ⟨HB9.out, HK9.out⟩
    | true =>
      go_wp2_with fail
      refine (HT2.out w1 HK1.out).mono ?_
      rintro e w' ⟨rfl, rfl⟩
      cases h2 : twoH l 2 with
      | false =>
        have hv : validH l = false := by unfold validH; simp [h0, h2]
        have HB9 : Hid (Blk (w1.setCell ⟨B3, 3, none⟩ (.bool false)) B3 145 #[.int .u32 0, .int .u32 0, .int .u32 0, .bool (validH l), .bool false, .int .i64 0]) := by rw [hv]; exact HB3.out.set_ 3 _
        have HK9 : Hid (Keep [B3] w1 (w1.setCell ⟨B3, 3, none⟩ (.bool false))) := keep_set _ B3 3 _
        go_wp2_with fail
        go_meet
        case rel => exact ⟨HB9.out, HK9.out⟩
      | true =>
        go_wp2_with fail
        refine (HT4.out w1 HK1.out).mono ?_
        rintro e w' ⟨rfl, rfl⟩
        cases h4 : twoH l 4 with
        | false =>
          have hv : validH l = false := by unfold validH; simp [h0, h2, h4]
          have HB9 : Hid (Blk (w1.setCell ⟨B3, 3, none⟩ (.bool false)) B3 145 #[.int .u32 0, .int .u32 0, .int .u32 0, .bool (validH l), .bool false, .int .i64 0]) := by rw [hv]; exact HB3.out.set_ 3 _
          have HK9 : Hid (Keep [B3] w1 (w1.setCell ⟨B3, 3, none⟩ (.bool false))) := keep_set _ B3 3 _
          go_wp2_with fail
          go_meet
          case rel => exact ⟨HB9.out, HK9.out⟩
        | true =>
          go_wp2_with fail
          refine (HT6.out w1 HK1.out).mono ?_
          rintro e w' ⟨rfl, rfl⟩
          cases h6 : twoH l 6 with
          | false =>
            have hv : validH l = false := by unfold validH; simp [h0, h2, h4, h6]
            have HB9 : Hid (Blk (w1.setCell ⟨B3, 3, none⟩ (.bool false)) B3 145 #[.int .u32 0, .int .u32 0, .int .u32 0, .bool (validH l), .bool false, .int .i64 0]) := by rw [hv]; exact HB3.out.set_ 3 _
            have HK9 : Hid (Keep [B3] w1 (w1.setCell ⟨B3, 3, none⟩ (.bool false))) := keep_set _ B3 3 _
            go_wp2_with fail
            go_meet
            case rel => exact ⟨HB9.out, HK9.out⟩
          | true =>
            go_wp2_with fail
            refine (HA6.out w1 HK1.out).mono ?_
            rintro e w' ⟨rfl, rfl⟩
            have hv : validH l = (((atH l 6 : Nat) : Int) == 1668246893) := by rw [show (((atH l 6 : Nat) : Int) == 1668246893) = (atH l 6 == 1668246893) from nat_beq _ 1668246893]; unfold validH; rw [h0, h2, h4, h6]; simp
            clear h0 h2 h4 h6
            have HB9 : Hid (Blk (w1.setCell ⟨B3, 3, none⟩ (.bool (((atH l 6 : Nat) : Int) == 1668246893))) B3 145 #[.int .u32 0, .int .u32 0, .int .u32 0, .bool (validH l), .bool false, .int .i64 0]) := by rw [hv]; exact HB3.out.set_ 3 _
            have HK9 : Hid (Keep [B3] w1 (w1.setCell ⟨B3, 3, none⟩ (.bool (((atH l 6 : Nat) : Int) == 1668246893)))) := keep_set _ B3 3 _
            go_wp2_with fail
            go_meet
            case rel => exact ⟨HB9.out, HK9.out⟩
  case rest =>
    obtain ⟨hb9, k19⟩ := hcut
    generalize wc = w9 at *
    have HB9 := Lib.hid hb9
    have HK9 : Hid (Keep [] w w9) := HK1.out.trans k19 (fun y hy hl => by have := HNE.out; simp only [List.mem_cons, List.not_mem_nil, or_false] at hy; omega)
    have HB29 := Lib.hid (HB21.out.keep k19 (by have := HNE.out; simp; omega))
    clear hb9 k19 HB21 HB3 HT0 HT2 HT4 HT6 HA6
    go_upto_region 3 with fail
    go_cut [4] from 5 (fun _ wx => Blk wx B3 145 #[.int .u32 0, .int .u32 0, .int .u32 0, .bool (validH l), .bool (confH l), .int .i64 0] ∧ Keep [B3] w9 wx)
    case first =>
      have hb9 := HB9.out
      have hl9 := hb9.lt
      have c4 : w9.cell? ⟨B3, 4, none⟩ = some (.bool false) := hb9.cell 4
      have f4 := hb9.frozen 4
      cases hv0 : validH l with
      | false =>
        have c3 : w9.cell? ⟨B3, 3, none⟩ = some (.bool false) := by rw [← hv0]; exact hb9.cell 3
        have hv : confH l = false := by unfold confH; rw [hv0]; rfl
        clear hb9
        have HB9 : Hid (Blk (w9.setCell ⟨B3, 4, none⟩ (.bool false)) B3 145 #[.int .u32 0, .int .u32 0, .int .u32 0, .bool (validH l), .bool (confH l), .int .i64 0]) := by rw [hv]; exact HB9.out.set_ 4 _
        have HK9 : Hid (Keep [B3] w9 (w9.setCell ⟨B3, 4, none⟩ (.bool false))) := keep_set _ B3 4 _
        go_wp2_with fail
        go_meet
        case rel => exact ⟨HB9.out, HK9.out⟩
      | true =>
        have c3 : w9.cell? ⟨B3, 3, none⟩ = some (.bool true) := by rw [← hv0]; exact hb9.cell 3
        clear hb9
        go_wp2_with fail
        refine (HT8.out w9 HK9.out).mono ?_
        rintro e w' ⟨rfl, rfl⟩
        cases h8 : twoH l 8 with
        | false =>
          have hv : confH l = false := by unfold confH; rw [h8]; simp
          have HB9 : Hid (Blk (w9.setCell ⟨B3, 4, none⟩ (.bool false)) B3 145 #[.int .u32 0, .int .u32 0, .int .u32 0, .bool (validH l), .bool (confH l), .int .i64 0]) := by rw [hv]; exact HB9.out.set_ 4 _
          have HK9 : Hid (Keep [B3] w9 (w9.setCell ⟨B3, 4, none⟩ (.bool false))) := keep_set _ B3 4 _
          go_wp2_with fail
          go_meet
          case rel => exact ⟨HB9.out, HK9.out⟩
        | true =>
          go_wp2_with fail
          refine (HA8.out w9 HK9.out).mono ?_
          rintro e w' ⟨rfl, rfl⟩
          have hv : confH l = (((atH l 8 : Nat) : Int) == 1668247142) := by rw [show (((atH l 8 : Nat) : Int) == 1668247142) = (atH l 8 == 1668247142) from nat_beq _ 1668247142]; unfold confH; rw [hv0, h8]; simp
          clear h8
          have HB9 : Hid (Blk (w9.setCell ⟨B3, 4, none⟩ (.bool (((atH l 8 : Nat) : Int) == 1668247142))) B3 145 #[.int .u32 0, .int .u32 0, .int .u32 0, .bool (validH l), .bool (confH l), .int .i64 0]) := by rw [hv]; exact HB9.out.set_ 4 _
          have HK9 : Hid (Keep [B3] w9 (w9.setCell ⟨B3, 4, none⟩ (.bool (((atH l 8 : Nat) : Int) == 1668247142)))) := keep_set _ B3 4 _
          go_wp2_with fail
          go_meet
          case rel => exact ⟨HB9.out, HK9.out⟩
    case rest =>
      obtain ⟨hb10, k910⟩ := hcut
      generalize wc = w10 at *
      have HB10 := Lib.hid hb10
      have HK10 : Hid (Keep [] w w10) := HK9.out.trans k910 (fun y hy hl => by have := HNE.out; simp only [List.mem_cons, List.not_mem_nil, or_false] at hy; omega)
      have HB210 := Lib.hid (HB29.out.keep k910 (by have := HNE.out; simp; omega))
      have hl10 := hb10.lt
      have c3 : w10.cell? ⟨B3, 3, none⟩ = some (.bool (validH l)) := hb10.cell 3
      have c0 : w10.cell? ⟨B3, 0, none⟩ = some (.int .u32 0) := hb10.cell 0
      have c1 : w10.cell? ⟨B3, 1, none⟩ = some (.int .u32 0) := hb10.cell 1
      have c2 : w10.cell? ⟨B3, 2, none⟩ = some (.int .u32 0) := hb10.cell 2
      have f0 := hb10.frozen 0
      have f1 := hb10.frozen 1
      have f2 := hb10.frozen 2
      clear hb10 k910 HB9 HK9 HB29
      go_upto_if 39 with fail
      go_cut [4] from 5 (fun _ wx => Blk wx B3 145 (hdCells { headH l with trials := 0 }).toArray ∧ Keep [B3] w10 wx)
      case first =>
        cases hv : validH l with
        | false =>
          have HB11 : Hid (Blk w10 B3 145 (hdCells { headH l with trials := 0 }).toArray) := by
            have h := HB10.out
            unfold headH
            rw [hv] at h ⊢
            exact h
          go_wp2_with fail
          go_meet
          case rel => exact ⟨HB11.out, (Keep.refl [] w10).mono (by simp)⟩
        | true =>
          have KA : Hid (Keep [] w (w10.setCell ⟨B3, 0, none⟩ (.int .u32 ((atH l 0 : Nat) : Int)))) := HK10.out.trans (keep_set _ B3 0 _) (fun y hy hl => by have := HNE.out; simp only [List.mem_cons, List.not_mem_nil, or_false] at hy; omega)
          have KB : Hid (Keep [] w ((w10.setCell ⟨B3, 0, none⟩ (.int .u32 ((atH l 0 : Nat) : Int))).setCell ⟨B3, 1, none⟩ (.int .u32 ((atH l 2 : Nat) : Int)))) := KA.out.trans (keep_set _ B3 1 _) (fun y hy hl => by have := HNE.out; simp only [List.mem_cons, List.not_mem_nil, or_false] at hy; omega)
          have HB11 : Hid (Blk (((w10.setCell ⟨B3, 0, none⟩ (.int .u32 ((atH l 0 : Nat) : Int))).setCell ⟨B3, 1, none⟩ (.int .u32 ((atH l 2 : Nat) : Int))).setCell ⟨B3, 2, none⟩ (.int .u32 ((atH l 4 : Nat) : Int))) B3 145 (hdCells { headH l with trials := 0 }).toArray) := by
            have h := ((HB10.out.set_ 0 (.int .u32 ((atH l 0 : Nat) : Int))).set_ 1 (.int .u32 ((atH l 2 : Nat) : Int))).set_ 2 (.int .u32 ((atH l 4 : Nat) : Int))
            unfold headH
            rw [hv] at h ⊢
            exact h
          have HK11 : Hid (Keep [B3] w10 (((w10.setCell ⟨B3, 0, none⟩ (.int .u32 ((atH l 0 : Nat) : Int))).setCell ⟨B3, 1, none⟩ (.int .u32 ((atH l 2 : Nat) : Int))).setCell ⟨B3, 2, none⟩ (.int .u32 ((atH l 4 : Nat) : Int)))) := ((keep_set _ B3 0 _).trans (keep_set _ B3 1 _) (fun y hy _ => hy)).trans (keep_set _ B3 2 _) (fun y hy _ => hy)
          go_wp2_with fail
          refine (HA0.out w10 HK10.out).mono ?_
          rintro e w' ⟨rfl, rfl⟩
          go_wp2_with fail
          refine (HA2.out _ KA.out).mono ?_
          rintro e w' ⟨rfl, rfl⟩
          go_wp2_with fail
          refine (HA4.out _ KB.out).mono ?_
          rintro e w' ⟨rfl, rfl⟩
          go_wp2_with fail
          go_meet
          case rel => exact ⟨HB11.out, HK11.out⟩
      case rest =>
        obtain ⟨hb11, k1011⟩ := hcut
        generalize wc = w11 at *
        have HB11 := Lib.hid hb11
        have HK11 : Hid (Keep [] w w11) := HK10.out.trans k1011 (fun y hy hl => by have := HNE.out; simp only [List.mem_cons, List.not_mem_nil, or_false] at hy; omega)
        have HB211 := Lib.hid (HB210.out.keep k1011 (by have := HNE.out; simp; omega))
        clear hb11 k1011 HB10 HK10 HB210 c0 c1 c2 c3 f0 f1 f2 hl10
        go_wp2_with fail
        go_loopw [4] (fun v4 wr => ∃ k : Nat, k ≤ 3 ∧ v4 = .int .i64 ((10 + k : Nat) : Int) ∧ Blk wr B3 145 (hdCells { headH l with trials := trialsH l k }).toArray ∧ Keep [] w wr ∧ Blk wr w.heap.size 145 #[.int .u32 0, .int .u32 0, .int .u32 0, .bool false, .bool false, .int .i64 0]) (fun v4 _ => 13 - (intOf v4).toNat)
        case atStart => exact ⟨0, Nat.zero_le _, rfl, HB11.out, HK11.out, HB211.out⟩
        case round =>
          obtain ⟨k, hk, rfl, hb, hkp, hb2⟩ := hrel
          by_cases hlt : k < 3
          · have hwk : IntKind.i64.wrap (((10 + k : Nat) : Int) + 1) = ((10 + (k + 1) : Nat) : Int) := by rw [show ((10 + k : Nat) : Int) + 1 = ((10 + (k + 1) : Nat) : Int) by omega]; exact IntWalk.i64_in _ (by omega)
            have q13 : decide (((10 + k : Nat) : Int) < 13) = true := decide_eq_true (by omega)
            have p13 : (10 + k < 13) = True := eq_true (by omega)
            have HAK := Lib.hid (HAT.out (10 + k) (by omega) wr hkp)
            have HS : Hid (trialsH l (k + 1) = trialsH l k + usedH l k) := show _ = _ from rfl
            have htk := trialsH_le l k
            have cb5 : wr.cell? ⟨B3, 5, none⟩ = some (.int .i64 ((trialsH l k : Nat) : Int)) := hb.cell 5
            have fb5 := hb.frozen 5
            have hl8 := hb.lt
            have HB := Lib.hid hb
            have HKP := Lib.hid hkp
            have HB2 := Lib.hid hb2
            have hw5 : IntKind.i64.wrap (((trialsH l k : Nat) : Int) + 1) = ((trialsH l k + 1 : Nat) : Int) := by rw [show ((trialsH l k : Nat) : Int) + 1 = ((trialsH l k + 1 : Nat) : Int) by omega]; exact IntWalk.i64_in _ (by omega)
            have HM : Hid (13 - (10 + (k + 1)) < 13 - (10 + k)) := by show _ < _; omega
            clear hb hkp hb2
            by_cases hu : atH l (10 + k) = 4294967295
            · have HS2 : Hid (trialsH l (k + 1) = trialsH l k) := by show _ = _; rw [HS.out, usedH, if_pos hu, Nat.add_zero]
              rw [hu] at HAK
              clear hu
              go_wp2_with fail
              refine HAK.out.mono ?_
              rintro e w' ⟨rfl, rfl⟩
              go_wp2
              go_roundw
              case rel => exact ⟨k + 1, by omega, by go_num, by rw [HS2.out]; exact HB.out, HKP.out, HB2.out⟩
              case measure => simp [intOf]; omega
            · have HS2 : Hid (trialsH l (k + 1) = trialsH l k + 1) := by show _ = _; rw [HS.out, usedH, if_neg hu]
              have hne : ((atH l (10 + k) : Nat) : Int) ≠ 4294967295 := by omega
              have hne1 : (((atH l (10 + k) : Nat) : Int) == 4294967295) = false := beq_eq_false_iff_ne.2 hne
              have hne2 : (((atH l (10 + k) : Nat) : Int) = 4294967295) = False := eq_false hne
              have hne3 : (atH l (10 + k) = 4294967295) = False := eq_false hu
              generalize atH l (10 + k) = x at *
              clear hu hne
              go_wp2_with fail
              refine HAK.out.mono ?_
              rintro e w' ⟨rfl, rfl⟩
              go_wp2
              have HB' : Hid (Blk (wr.setCell ⟨B3, 5, none⟩ (.int .i64 ((trialsH l k + 1 : Nat) : Int))) B3 145 (hdCells { headH l with trials := trialsH l (k + 1) }).toArray) := by rw [HS2.out]; exact HB.out.set_ 5 _
              have HK' : Hid (Keep [] w (wr.setCell ⟨B3, 5, none⟩ (.int .i64 ((trialsH l k + 1 : Nat) : Int)))) := HKP.out.trans (keep_set _ B3 5 _) (fun y hy hl => by have := HNE.out; simp only [List.mem_cons, List.not_mem_nil, or_false] at hy; omega)
              have HB2' : Hid (Blk (wr.setCell ⟨B3, 5, none⟩ (.int .i64 ((trialsH l k + 1 : Nat) : Int))) w.heap.size 145 #[.int .u32 0, .int .u32 0, .int .u32 0, .bool false, .bool false, .int .i64 0]) := HB2.out.far (by have := HNE.out; exact this.1) _
              go_roundw
              case rel => exact ⟨k + 1, by omega, by go_num, HB'.out, HK'.out, HB2'.out⟩
              case measure => simp [intOf]; omega
          · obtain rfl : k = 3 := by omega
            have HBF : Hid (Blk wr B3 145 (hdCells (headH l)).toArray) := hb
            have HKP := Lib.hid hkp
            clear hb hkp
            go_wp2_with (first
              | (refine wpList_load_agg rfl 145 (.tmp 3) rfl rfl (cs := hdCells (headH l)) HA.out ?_ ?_; exact HBF.out.cellsAt)
              | (refine stop_store 145 (.tmp 2) (.tmp 61) rfl ?_))
            constructor
            refine wpList_store_all rfl 145 (.tmp 2) (.tmp 61) rfl rfl rfl (t := 145) (cs := #[.int .u32 0, .int .u32 0, .int .u32 0, .bool false, .bool false, .int .i64 0]) (vs := hdCells (headH l)) HA.out.2 hb2 (by simp [Value.oneCell']) rfl ?_
            intro w12 d12 k12
            have HD := Lib.hid d12
            have HKF : Hid (Keep [] w w12) := HKP.out.trans k12 (fun y hy hl => by simp only [List.mem_cons, List.not_mem_nil, or_false] at hy; omega)
            clear d12 k12 hb2
            go_wp2
            refine bodyPost_ret (results_blk rfl _ rfl (vs := hdCells (headH l)) HD.out HA.out) rfl ?_
            exact ⟨rfl, HKF.out⟩
end Go.Proofs.Yteanpgkonhdbpaa
