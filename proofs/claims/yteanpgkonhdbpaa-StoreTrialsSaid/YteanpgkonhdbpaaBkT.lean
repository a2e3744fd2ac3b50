/- header.NextTrial; bank.Commit, Confirm, Try, walked. Condition: the device is one that may be, the bank one that fits. bank.Commit, walked. Condition: the device is one that may be, the bank one that fits. bank.Try, Open, walked. Condition: the device is one that may be, the bank one that fits. -/
import Derived.Test.YteanpgkonhdbpaaBkX
import Derived.Test.YteanpgkonhdbpaaBkG
namespace Go.Proofs.Yteanpgkonhdbpaa
open Go.RowKit

/-- The next trial's word, of those from one on. -/
def nextT (l : List Nat) : Nat → Nat → Option Nat
  | 0, _ => none
  | f + 1, k => if atH l (10 + k) = 4294967295 then some (10 + k) else nextT l f (k + 1)
def nextV (r : Option Nat) : Value := .tuple #[.int .i64 ((r.getD 0 : Nat) : Int), .bool r.isSome]

set_option maxRecDepth 100000 in
set_option maxHeartbeats 2000000 in
theorem hnext_any (A : Option Addr) (n c : Nat) (l : List Nat) (w : World) (hl : l.length = n) (hr : Reads w 1 A n (wordsV l)) (hn : n ≤ 100000) :
    Calls Try.prog 124 #[.slice A n c] w fun e w' => e = .returned (nextV (nextT l 3 0)) ∧ w = w' := by
  have HR := Lib.hid hr
  have HL := Lib.hid hl
  have HV : Hid (∀ r, nextV r = .tuple #[.int .i64 ((r.getD 0 : Nat) : Int), .bool r.isSome]) := fun r => rfl
  obtain ⟨r, hrr⟩ : ∃ r, nextT l 3 0 = r := ⟨_, rfl⟩
  have HRR := Lib.hid hrr
  rw [hrr]
  clear hr hl hrr
  go_enter Try.func124, Try.ntmps124
  go_wp2
  go_loop [5] (fun v5 => ∃ k : Nat, k ≤ 3 ∧ v5 = .int .i64 (k : Int) ∧ nextT l (3 - k) k = r) (fun v5 => 3 - (intOf v5).toNat)
  case atStart => exact ⟨0, Nat.zero_le _, rfl, HRR.out⟩
  case round =>
    obtain ⟨k, hk, rfl, hnx⟩ := hrel
    have HNX := Lib.hid hnx
    clear hnx
    by_cases hlt : k < 3
    · have HS : Hid (nextT l (3 - k) k = if atH l (10 + k) = 4294967295 then some (10 + k) else nextT l (3 - (k + 1)) (k + 1)) := by
        show _ = _
        rw [show 3 - k = (3 - (k + 1)) + 1 by omega]
        rfl
      have hw1 : IntKind.i64.wrap (10 + (k : Int)) = ((10 + k : Nat) : Int) := by rw [show 10 + (k : Int) = ((10 + k : Nat) : Int) by omega]; exact IntWalk.i64_in _ (by omega)
      have hwk : IntKind.i64.wrap ((k : Int) + 1) = ((k + 1 : Nat) : Int) := by rw [show (k : Int) + 1 = ((k + 1 : Nat) : Int) by omega]; exact IntWalk.i64_in _ (by omega)
      by_cases hin : 10 + k < n
      · have hil : 10 + k < l.length := by rw [HL.out]; exact hin
        obtain ⟨bo, oo, rfl, hb, hcs⟩ := HR.out.addr (by omega)
        have hx : w.cell? ⟨bo, oo + (10 + k), none⟩ = some (.int .u32 ((atH l (10 + k) : Nat) : Int)) := hcs (10 + k) _ (by rw [List.getElem?_map, List.getElem?_eq_getElem hil]; simp [atH, hil])
        have q0 : decide ((n : Int) ≤ 10 + (k : Int)) = false := decide_eq_false (by omega)
        have q0' : decide ((n : Int) ≤ ((10 + k : Nat) : Int)) = false := decide_eq_false (by omega)
        have p0 : (n ≤ 10 + k) = False := eq_false (by omega)
        have p1 : ((n : Int) ≤ 10 + (k : Int)) = False := eq_false (by omega)
        have z1 : (0 : Int) ≤ 10 + (k : Int) := by omega
        have z2 : 10 + (k : Int) < (n : Int) := by omega
        have z3 : (10 + (k : Int)).toNat = 10 + k := by omega
        clear hcs
        by_cases hu : atH l (10 + k) = 4294967295
        · have HRS : Hid (r = some (10 + k)) := by show _ = _; rw [← HNX.out, HS.out, if_pos hu]
          rw [hu] at hx
          have hx' : w.cell? ⟨bo, oo + (10 + k), none⟩ = some (.int .u32 4294967295) := hx
          clear hx hu
          go_wp2
          go_ret2
          rw [HRS.out, HV.out]
          exact ⟨rfl, rfl⟩
        · have HRS : Hid (nextT l (3 - (k + 1)) (k + 1) = r) := by show _ = _; rw [← HNX.out, HS.out, if_neg hu]
          have hne : ((atH l (10 + k) : Nat) : Int) ≠ 4294967295 := by omega
          have hne1 : (((atH l (10 + k) : Nat) : Int) == 4294967295) = false := beq_eq_false_iff_ne.2 hne
          have hne2 : (((atH l (10 + k) : Nat) : Int) = 4294967295) = False := eq_false hne
          have hne3 : (atH l (10 + k) = 4294967295) = False := eq_false hu
          generalize atH l (10 + k) = x at *
          clear hu hne
          go_wp2
          go_round
          case rel => exact ⟨k + 1, by omega, by go_num, HRS.out⟩
          case measure => simp [intOf]; omega
      · have hu : atH l (10 + k) = 4294967295 := by unfold atH; rw [List.getD_eq_getElem?_getD, List.getElem?_eq_none (by have := HL.out; omega)]; rfl
        have HRS : Hid (r = some (10 + k)) := by show _ = _; rw [← HNX.out, HS.out, if_pos hu]
        have q0 : decide ((n : Int) ≤ 10 + (k : Int)) = true := decide_eq_true (by omega)
        have q0' : decide ((n : Int) ≤ ((10 + k : Nat) : Int)) = true := decide_eq_true (by omega)
        have p0 : (n ≤ 10 + k) = True := eq_true (by omega)
        have p1 : ((n : Int) ≤ 10 + (k : Int)) = True := eq_true (by omega)
        clear hu
        go_wp2
        go_ret2
        rw [HRS.out, HV.out]
        exact ⟨rfl, rfl⟩
    · obtain rfl : k = 3 := by omega
      have HRS : Hid (r = none) := by show _ = _; rw [← HNX.out]; rfl
      go_wp2
      go_ret2
      rw [HRS.out, HV.out]
      exact ⟨rfl, rfl⟩

def commitB (d : Dev) (b : BkS) (q : Nat) : Dev × BkS × Int :=
  if b.opn = false ∨ b.pn = 0 then (d, b, 80)
  else if (progsH d (b.base + 1) (headW q b.pn (cplJ b.s))).2 = 0 then
    ((progsH (progsH d (b.base + 1) (headW q b.pn (cplJ b.s))).1 (b.base + 1) (pairH 6 1668246893)).1, { b with opn := false }, (progsH (progsH d (b.base + 1) (headW q b.pn (cplJ b.s))).1 (b.base + 1) (pairH 6 1668246893)).2)
  else ((progsH d (b.base + 1) (headW q b.pn (cplJ b.s))).1, { b with opn := false }, (progsH d (b.base + 1) (headW q b.pn (cplJ b.s))).2)
def confirmB (d : Dev) (b : BkS) : Dev × Int :=
  if d.on = false then (d, 63) else if (stateB d b).valid = false ∨ (stateB d b).conf = true then (d, 80)
  else ((progsH d (b.base + 1) (pairH 8 1668247142)).1, if (progsH d (b.base + 1) (pairH 8 1668247142)).2 = 61 then 80 else (progsH d (b.base + 1) (pairH 8 1668247142)).2)
def tryB (d : Dev) (b : BkS) : Dev × Int :=
  if d.on = false then (d, 63) else if (stateB d b).valid = false ∨ (stateB d b).conf = true then (d, 80)
  else match nextT (secB d b 1) 3 0 with
    | none => (d, 80)
    | some i => progS d ((b.base + 1 : Nat) : Int) (i : Int) 0
theorem headW_lt {q n c : Nat} (h1 : q < 4294967296) (h2 : n < 4294967296) (h3 : c < 4294967296) : ∀ x ∈ headW q n c, x.2 < 4294967296 := by
  intro x hx
  have := cpl_lt q
  have := cpl_lt n
  have := cpl_lt c
  simp only [headW, pairH, List.mem_append, List.mem_cons, List.not_mem_nil, or_false] at hx
  rcases hx with ((rfl | rfl) | (rfl | rfl)) | (rfl | rfl) <;> assumption
theorem pairH_lt {a x : Nat} (h : x < 4294967296) : ∀ y ∈ pairH a x, y.2 < 4294967296 := by
  intro y hy
  have := cpl_lt x
  simp only [pairH, List.mem_cons, List.not_mem_nil, or_false] at hy
  rcases hy with rfl | rfl <;> assumption

section
variable (gb g b1 b2 : Nat) (d : Dev) (b : BkS) (w : World) (hb : BankAt w gb g b) (hd : DevAt w g b1 b2 d) (ho : d.Ok) (hk : BkOk d b)
include hb hd ho hk
set_option maxRecDepth 100000 in
set_option maxHeartbeats 4000000 in
theorem bconfirm_any : Calls Try.prog 83 #[.pointer (some ⟨gb, 0, none⟩)] w fun e w' => e = .returned (.int .i64 (confirmB d b).2) ∧ LeftB w w' gb g b1 b2 (confirmB d b).1 b := by
  have hA : AggOf Try.prog 70 6 := ⟨by kernel_rfl, by kernel_rfl⟩
  have HST := Lib.hid (bstate_any gb g b1 b2 d b w hb hd ho hk)
  have HCF : Hid (confirmB d b = if d.on = false then (d, 63) else if (stateB d b).valid = false ∨ (stateB d b).conf = true then (d, 80)
    else ((progsH d (b.base + 1) (pairH 8 1668247142)).1, if (progsH d (b.base + 1) (pairH 8 1668247142)).2 = 61 then 80 else (progsH d (b.base + 1) (pairH 8 1668247142)).2)) := show _ = _ from rfl
  obtain ⟨st, hst⟩ : ∃ st, stateB d b = st := ⟨_, rfl⟩
  rw [hst] at HST HCF
  generalize confirmB d b = res at *
  clear hst
  have HB := Lib.hid hb
  have HD := Lib.hid hd
  have HON : Hid (∀ W, Keep [] w W → Calls Try.prog 21 #[.pointer (some ⟨g, 0, none⟩)] W fun e w' => e = .returned (.bool d.on) ∧ W = w') := fun W k => fon_any g b1 b2 d W (HD.out.keep0 k)
  have HWR : Hid (∀ W, Keep [] w W → Calls Try.prog 108 #[.pointer (some ⟨gb, 0, none⟩), .func (.func 139) #[] #[]] W fun e w' => e = .returned (.int .i64 (progsH d (b.base + 1) (pairH 8 1668247142)).2) ∧ LeftB W w' gb g b1 b2 (progsH d (b.base + 1) (pairH 8 1668247142)).1 b) := fun W k =>
    bwrite_any gb g b1 b2 d b W (HB.out.keep0 k) (HD.out.keep0 k) ho hk _ _ (pairH 8 1668247142) (pairH_lt (by decide)) (fun W' _ => confirms1_seq 8 W') (enters_of Try.func139 (by kernel_rfl) rfl)
  have HCS := fun W => Lib.hid (confirms_any W)
  obtain ⟨d5, e5, hp5⟩ : ∃ d5 e5, progsH d (b.base + 1) (pairH 8 1668247142) = (d5, e5) := ⟨_, _, rfl⟩
  rw [hp5] at HWR HCF
  dsimp only at HWR HCF
  have HLF : Hid (∀ W, Keep [] w W → LeftB w W gb g b1 b2 d b) := fun W k => ⟨HD.out.keep0 k, HB.out.keep0 k, k.mono (by simp)⟩
  clear hb hd ho hk hp5
  go_enter Try.func83, Try.ntmps83
  go_wp2_with (first
    | (refine HST.out.mono ?_; rintro e w1 ⟨rfl, k1⟩)
    | (refine stop_store 70 (.tmp 3) (.tmp 6) rfl ?_))
  constructor
  refine wpList_store_all rfl 70 (.tmp 3) (.tmp 6) rfl rfl rfl (t := 70) (cs := #[.int .u32 0, .int .u32 0, .int .u32 0, .bool false, .bool false, .int .i64 0]) (vs := hdCells st) hA.2 (Blk.new _ _ _) (by simp [Value.oneCell']) rfl ?_
  intro w2 d2 k2
  have K02 : Keep [] w w2 := k1.then (((Keep.refl [] w1).alloc _).trans k2 (fun y hy hl => by simp only [List.mem_cons, List.not_mem_nil, or_false] at hy; omega))
  have c33 : w2.cell? ⟨w1.heap.size, 3, none⟩ = some (.bool st.valid) := d2.cell 3
  have c34 : w2.cell? ⟨w1.heap.size, 4, none⟩ = some (.bool st.conf) := d2.cell 4
  have cg := (HB.out.keep0 K02).cells.1
  have HKK := Lib.hid K02
  clear k1 k2 d2 K02 HST
  generalize w1.heap.size = B3 at *
  cases hon : d.on with
  | false =>
    rw [hon] at HON
    have HRS : Hid (res = (d, 63)) := by show _ = _; rw [HCF.out, if_pos hon]
    go_wp2_with (refine (HON.out w2 HKK.out).mono ?_; rintro e w3 ⟨rfl, rfl⟩)
    go_ret
    rw [HRS.out]
    exact ⟨rfl, HLF.out _ HKK.out⟩
  | true =>
    rw [hon] at HON
    cases hv : st.valid with
    | false =>
      rw [hv] at c33
      have HRS : Hid (res = (d, 80)) := by show _ = _; rw [HCF.out, if_neg (by rw [hon]; decide), if_pos (.inl hv)]
      go_wp2_with (refine (HON.out w2 HKK.out).mono ?_; rintro e w3 ⟨rfl, rfl⟩)
      go_ret
      rw [HRS.out]
      exact ⟨rfl, HLF.out _ HKK.out⟩
    | true =>
      rw [hv] at c33
      cases hc : st.conf with
      | true =>
        rw [hc] at c34
        have HRS : Hid (res = (d, 80)) := by show _ = _; rw [HCF.out, if_neg (by rw [hon]; decide), if_pos (.inr hc)]
        go_wp2_with (refine (HON.out w2 HKK.out).mono ?_; rintro e w3 ⟨rfl, rfl⟩)
        go_ret
        rw [HRS.out]
        exact ⟨rfl, HLF.out _ HKK.out⟩
      | false =>
        rw [hc] at c34
        by_cases h61 : e5 = 61
        · subst h61
          have HRS : Hid (res = (d5, 80)) := by show _ = _; rw [HCF.out, if_neg (by rw [hon]; decide), if_neg (by rw [hv, hc]; decide), if_pos rfl]
          go_wp2_with (first
            | (refine (HON.out w2 HKK.out).mono ?_; rintro e w3 ⟨rfl, rfl⟩)
            | (refine (HCS w2).out.mono ?_; rintro e w3 ⟨rfl, rfl⟩)
            | (refine (HWR.out w2 HKK.out).mono ?_; rintro e w3 ⟨rfl, hlf⟩))
          go_ret
          rw [HRS.out]
          exact ⟨rfl, hlf.dev, hlf.bank, (HKK.out.mono (by simp)).trans hlf.keep (fun y hy _ => hy)⟩
        · have HRS : Hid (res = (d5, e5)) := by show _ = _; rw [HCF.out, if_neg (by rw [hon]; decide), if_neg (by rw [hv, hc]; decide), if_neg h61]
          have q0 : (e5 == 61) = false := beq_eq_false_iff_ne.2 h61
          have q1 : (e5 = 61) = False := eq_false h61
          have q2 : (e5 != 61) = true := bne_iff_ne.2 h61
          go_wp2_with (first
            | (refine (HON.out w2 HKK.out).mono ?_; rintro e w3 ⟨rfl, rfl⟩)
            | (refine (HCS w2).out.mono ?_; rintro e w3 ⟨rfl, rfl⟩)
            | (refine (HWR.out w2 HKK.out).mono ?_; rintro e w3 ⟨rfl, hlf⟩))
          go_ret
          rw [HRS.out]
          exact ⟨rfl, hlf.dev, hlf.bank, (HKK.out.mono (by simp)).trans hlf.keep (fun y hy _ => hy)⟩
end
end Go.Proofs.Yteanpgkonhdbpaa

namespace Go.Proofs.Yteanpgkonhdbpaa
open Go.RowKit

section
variable (gb g b1 b2 : Nat) (d : Dev) (b : BkS) (q : Nat) (w : World) (hb : BankAt w gb g b) (hd : DevAt w g b1 b2 d) (ho : d.Ok) (hk : BkOk d b) (hp : b.pn ≤ 100000) (hs : b.s < 4294967296) (hq : q < 4294967296)
include hb hd ho hk hp hs hq
set_option maxRecDepth 100000 in
set_option maxHeartbeats 8000000 in
theorem bcommit_any : Calls Try.prog 71 #[.pointer (some ⟨gb, 0, none⟩), .int .u32 (q : Int)] w fun e w' => e = .returned (.int .i64 (commitB d b q).2.2) ∧ LeftB w w' gb g b1 b2 (commitB d b q).1 (commitB d b q).2.1 := by
  have HA : Hid (AggOf Try.prog 68 3) := ⟨by kernel_rfl, by kernel_rfl⟩
  have HCS := fun W => Lib.hid (commits_any W)
  have HCM : Hid (commitB d b q = if b.opn = false ∨ b.pn = 0 then (d, b, 80)
    else if (progsH d (b.base + 1) (headW q b.pn (cplJ b.s))).2 = 0 then
      ((progsH (progsH d (b.base + 1) (headW q b.pn (cplJ b.s))).1 (b.base + 1) (pairH 6 1668246893)).1, { b with opn := false }, (progsH (progsH d (b.base + 1) (headW q b.pn (cplJ b.s))).1 (b.base + 1) (pairH 6 1668246893)).2)
    else ((progsH d (b.base + 1) (headW q b.pn (cplJ b.s))).1, { b with opn := false }, (progsH d (b.base + 1) (headW q b.pn (cplJ b.s))).2)) := show _ = _ from rfl
  generalize commitB d b q = res at *
  obtain ⟨c0, c1, c2, c3, c4⟩ := hb.cells
  have HO := Lib.hid ho
  have HK := Lib.hid hk
  have HB := Lib.hid hb
  have HD := Lib.hid hd
  have HS := Lib.hid hs
  have HQ := Lib.hid hq
  have hcs := cpl_lt b.s
  have HLF : Hid (LeftB w w gb g b1 b2 d b) := ⟨hd, hb, (Keep.refl [] w).mono (by simp)⟩
  have hne := bank_ne hd hb
  have gf := Blk.frozen hb 3
  have hgl := Blk.lt hb
  have HB1 : Hid (BankAt (w.setCell ⟨gb, 3, none⟩ (.bool false)) gb g { b with opn := false }) := Blk.set_ hb 3 _
  have HK1 : Hid (Keep [gb, g, b1, b2] w (w.setCell ⟨gb, 3, none⟩ (.bool false))) := (keep_set w gb 3 (.bool false)).mono (by simp)
  have HD1 : Hid (DevAt (w.setCell ⟨gb, 3, none⟩ (.bool false)) g b1 b2 d) := hd.keep (keep_set _ gb 3 _) (by simp; omega) (by simp; omega) (by simp; omega)
  clear hb hd ho hk hs hq hne
  go_enter Try.func71, Try.ntmps71
  cases hop : b.opn with
  | false =>
    rw [hop] at c3
    have HRS : Hid (res = (d, b, 80)) := by show _ = _; rw [HCM.out, if_pos (.inl hop)]
    go_wp2_with fail
    go_ret
    rw [HRS.out]
    exact ⟨rfl, HLF.out⟩
  | true =>
    rw [hop] at c3
    by_cases hp0 : b.pn = 0
    · have HRS : Hid (res = (d, b, 80)) := by show _ = _; rw [HCM.out, if_pos (.inr hp0)]
      rw [hp0] at c4
      go_wp2_with fail
      go_ret
      rw [HRS.out]
      exact ⟨rfl, HLF.out⟩
    · have HCM2 := HCM.out
      rw [if_neg (by rw [hop]; simp [hp0])] at HCM2
      replace HCM : Hid _ := Lib.hid HCM2
      clear HCM2
      have q0 : decide ((b.pn : Int) = 0) = false := decide_eq_false (by omega)
      have p0 : ((b.pn : Int) = 0) = False := eq_false (by omega)
      have p1 := eq_false hp0
      go_upto_region 4 with fail
      generalize w.setCell ⟨gb, 3, none⟩ (.bool false) = w1 at *
      have hG : ∀ W, Keep [] w1 W → W.cell? ⟨gb, 4, none⟩ = some (.int .i64 (b.pn : Int)) ∧ True ∧ True := fun W k => ⟨(HB1.out.keep0 k).cells.2.2.2.2, trivial, trivial⟩
      have hwu : IntKind.u32.wrap (b.pn : Int) = (b.pn : Int) := IntWalk.u32_in _ (by omega)
      have HVL : Hid (∀ W, Keep [] w1 W → Calls Try.prog 74 #[.pointer (some ⟨gb, 5, none⟩)] W fun e w' => e = .returned (.int .u32 ((cplJ b.s : Nat) : Int)) ∧ W = w') := fun W k =>
        cvalue_any gb 5 128 (bkCells g { b with opn := false }) b.s b.m W (HB1.out.keep0 k) (by show 6 < 7; decide)
      clear c0 c1 c2 c3 c4 gf
      generalize hcc : cplJ b.s = sm at *
      go_cut [5] from 7 (fun v5 wx => ∃ B5, v5 = .pointer (some ⟨B5, 0, none⟩) ∧ Blk wx B5 68 #[.int .u32 (q : Int), .int .u32 (b.pn : Int), .int .u32 (sm : Int)] ∧ Keep [] w1 wx)
      case first =>
        refine ap_begin 12 (Keep [] w1) rfl (Keep.refl _ _).drew (fun hS hPan => ?_) (fun _ _ d _ _ h => by cases d <;> exact h)
        (refine ap_val (v := ?_) 0 rfl (by kernel_rfl) (by kernel_rfl) (by kernel_rfl) (by kernel_rfl) (by rfl) hPan ?_ hS ?_; rotate_left; (intro w' hSw; go_simp; try with_reducible rfl); simp only [Act.put, List.setIfInBounds_toArray, List.set_cons_zero, List.set_cons_succ])
        (refine ap_val (v := ?_) 1 rfl (by kernel_rfl) (by kernel_rfl) (by kernel_rfl) (by kernel_rfl) (by rfl) hPan ?_ hS ?_; rotate_left; (intro w' hSw; go_simp; try with_reducible rfl); simp only [Act.put, List.setIfInBounds_toArray, List.set_cons_zero, List.set_cons_succ])
        (refine ap_val (v := ?_) 2 rfl (by kernel_rfl) (by kernel_rfl) (by kernel_rfl) (by kernel_rfl) (by rfl) hPan ?_ hS ?_; rotate_left; (intro w' hSw; go_simp; try with_reducible rfl); simp only [Act.put, List.setIfInBounds_toArray, List.set_cons_zero, List.set_cons_succ])
        (refine ap_val (v := ?_) 3 rfl (by kernel_rfl) (by kernel_rfl) (by kernel_rfl) (by kernel_rfl) (by rfl) hPan ?_ hS ?_; rotate_left; (intro w' hSw; go_simp; try with_reducible rfl); simp only [Act.put, List.setIfInBounds_toArray, List.set_cons_zero, List.set_cons_succ])
        (refine ap_val (v := ?_) 4 rfl (by kernel_rfl) (by kernel_rfl) (by kernel_rfl) (by kernel_rfl) (by rfl) hPan ?_ hS ?_; rotate_left; (intro w' hSw; obtain ⟨f0,f1,f2⟩ := hG w' hSw; go_simp; try with_reducible rfl); simp only [Act.put, List.setIfInBounds_toArray, List.set_cons_zero, List.set_cons_succ])
        (refine ap_val (v := ?_) 5 rfl (by kernel_rfl) (by kernel_rfl) (by kernel_rfl) (by kernel_rfl) (by rfl) hPan ?_ hS ?_; rotate_left; (intro w' hSw; go_simp; try with_reducible rfl); simp only [Act.put, List.setIfInBounds_toArray, List.set_cons_zero, List.set_cons_succ])
        (refine ap_val (v := ?_) 6 rfl (by kernel_rfl) (by kernel_rfl) (by kernel_rfl) (by kernel_rfl) (by rfl) hPan ?_ hS ?_; rotate_left; (intro w' hSw; go_simp; try with_reducible rfl); simp only [Act.put, List.setIfInBounds_toArray, List.set_cons_zero, List.set_cons_succ])
        (refine ap_val (v := ?_) 7 rfl (by kernel_rfl) (by kernel_rfl) (by kernel_rfl) (by kernel_rfl) (by rfl) hPan ?_ hS ?_; rotate_left; (intro w' hSw; go_simp; try with_reducible rfl); simp only [Act.put, List.setIfInBounds_toArray, List.set_cons_zero, List.set_cons_succ])
        (refine ap_val (v := ?_) 8 rfl (by kernel_rfl) (by kernel_rfl) (by kernel_rfl) (by kernel_rfl) (by rfl) hPan ?_ hS ?_; rotate_left; (intro w' hSw; go_simp; try with_reducible rfl); simp only [Act.put, List.setIfInBounds_toArray, List.set_cons_zero, List.set_cons_succ])
        generalize w1.drew = wd at *
        refine ap_twoJ 9 11 (by kernel_rfl) ?ta ?tb
        case ta =>
          refine op_call (f := 74) (vs := #[.pointer (some ⟨gb, 5, none⟩)]) 9 rfl (by kernel_rfl) rfl (by simp only [List.map_toArray, List.map_cons, List.map_nil]; rfl) Try.func74 (by kernel_rfl) (by kernel_rfl) (HVL.out wd hS) ?_
          rintro e ws ⟨rfl, rfl⟩
          refine ⟨_, rfl, fun _ => hS, ?_⟩
          (simp only [Act.put, List.setIfInBounds_toArray, List.set_cons_zero, List.set_cons_succ])
          refine ap_twoJ 10 11 (by kernel_rfl) ?ta1 ?ta2
          case ta1 =>
            refine op_run (v := .agg #[.int .u32 (q : Int), .int .u32 (b.pn : Int), .int .u32 (sm : Int)]) (w' := wd) 10 rfl (by kernel_rfl) (by go_simp) ?_
            refine ⟨fun _ => hS, ?_⟩
            (simp only [Act.put, List.setIfInBounds_toArray, List.set_cons_zero, List.set_cons_succ])
            refine ap_one 11 (by kernel_rfl) ?_
            refine op_run (v := .pointer (some ⟨wd.heap.size, 0, none⟩)) (w' := wd.alloc (.cells #[.int .u32 0, .int .u32 0, .int .u32 0] 68)) 11 rfl (by kernel_rfl) (by go_simp) ?_
            have hbn := Blk.new wd 68 #[.int .u32 0, .int .u32 0, .int .u32 0]
            have kal : Keep [] w1 (wd.alloc (.cells #[.int .u32 0, .int .u32 0, .int .u32 0] 68)) := hS.alloc _
            have hll : w1.heap.size ≤ wd.heap.size := hS.size
            refine ⟨fun _ => kal, ?_⟩
            (simp only [Act.put, List.setIfInBounds_toArray, List.set_cons_zero, List.set_cons_succ])
            generalize wd.alloc (.cells #[.int .u32 0, .int .u32 0, .int .u32 0] 68) = wz at *
            generalize wd.heap.size = B5 at *
            refine ap_one 12 (by kernel_rfl) ?_
            refine op_store_all (t := 68) (cs := #[.int .u32 0, .int .u32 0, .int .u32 0]) (vs := [.int .u32 (q : Int), .int .u32 (b.pn : Int), .int .u32 (sm : Int)]) 12 rfl (by kernel_rfl) rfl rfl rfl HA.out.2 hbn (by simp [Value.oneCell']) rfl ?_
            intro w9 d9 k9
            refine ⟨fun h => (by cases h), ap_done (by kernel_rfl) ?_ _⟩
            (simp only [Act.put])
            have HD9 := Lib.hid d9
            have HS9 : Hid (Keep [] w1 w9) := kal.trans k9 (fun y hy hl => by simp only [List.mem_cons, List.not_mem_nil, or_false] at hy; omega)
            clear k9 d9 hS hPan hG hbn kal hll
            go_wp2_with fail
            go_meet
            case rel => exact ⟨_, rfl, HD9.out, HS9.out⟩
          case ta2 =>
            refine op_run (v := .pointer (some ⟨wd.heap.size, 0, none⟩)) (w' := wd.alloc (.cells #[.int .u32 0, .int .u32 0, .int .u32 0] 68)) 11 rfl (by kernel_rfl) (by go_simp) ?_
            have hbn := Blk.new wd 68 #[.int .u32 0, .int .u32 0, .int .u32 0]
            have kal : Keep [] w1 (wd.alloc (.cells #[.int .u32 0, .int .u32 0, .int .u32 0] 68)) := hS.alloc _
            have hll : w1.heap.size ≤ wd.heap.size := hS.size
            refine ⟨fun _ => kal, ?_⟩
            (simp only [Act.put, List.setIfInBounds_toArray, List.set_cons_zero, List.set_cons_succ])
            refine ap_one 10 (by kernel_rfl) ?_
            refine op_run (v := .agg #[.int .u32 (q : Int), .int .u32 (b.pn : Int), .int .u32 (sm : Int)]) (w' := wd.alloc (.cells #[.int .u32 0, .int .u32 0, .int .u32 0] 68)) 10 rfl (by kernel_rfl) (by go_simp) ?_
            refine ⟨fun _ => kal, ?_⟩
            (simp only [Act.put, List.setIfInBounds_toArray, List.set_cons_zero, List.set_cons_succ])
            generalize wd.alloc (.cells #[.int .u32 0, .int .u32 0, .int .u32 0] 68) = wz at *
            generalize wd.heap.size = B5 at *
            refine ap_one 12 (by kernel_rfl) ?_
            refine op_store_all (t := 68) (cs := #[.int .u32 0, .int .u32 0, .int .u32 0]) (vs := [.int .u32 (q : Int), .int .u32 (b.pn : Int), .int .u32 (sm : Int)]) 12 rfl (by kernel_rfl) rfl rfl rfl HA.out.2 hbn (by simp [Value.oneCell']) rfl ?_
            intro w9 d9 k9
            refine ⟨fun h => (by cases h), ap_done (by kernel_rfl) ?_ _⟩
            (simp only [Act.put])
            have HD9 := Lib.hid d9
            have HS9 : Hid (Keep [] w1 w9) := kal.trans k9 (fun y hy hl => by simp only [List.mem_cons, List.not_mem_nil, or_false] at hy; omega)
            clear k9 d9 hS hPan hG hbn kal hll
            go_wp2_with fail
            go_meet
            case rel => exact ⟨_, rfl, HD9.out, HS9.out⟩
        case tb =>
          refine op_run (v := .pointer (some ⟨wd.heap.size, 0, none⟩)) (w' := wd.alloc (.cells #[.int .u32 0, .int .u32 0, .int .u32 0] 68)) 11 rfl (by kernel_rfl) (by go_simp) ?_
          have hbn := Blk.new wd 68 #[.int .u32 0, .int .u32 0, .int .u32 0]
          have kal : Keep [] w1 (wd.alloc (.cells #[.int .u32 0, .int .u32 0, .int .u32 0] 68)) := hS.alloc _
          have hll : w1.heap.size ≤ wd.heap.size := hS.size
          refine ⟨fun _ => kal, ?_⟩
          (simp only [Act.put, List.setIfInBounds_toArray, List.set_cons_zero, List.set_cons_succ])
          refine ap_one 9 (by kernel_rfl) ?_
          refine op_call (f := 74) (vs := #[.pointer (some ⟨gb, 5, none⟩)]) 9 rfl (by kernel_rfl) rfl (by simp only [List.map_toArray, List.map_cons, List.map_nil]; rfl) Try.func74 (by kernel_rfl) (by kernel_rfl) (HVL.out _ kal) ?_
          rintro e ws ⟨rfl, rfl⟩
          refine ⟨_, rfl, fun _ => kal, ?_⟩
          (simp only [Act.put, List.setIfInBounds_toArray, List.set_cons_zero, List.set_cons_succ])
          refine ap_one 10 (by kernel_rfl) ?_
          refine op_run (v := .agg #[.int .u32 (q : Int), .int .u32 (b.pn : Int), .int .u32 (sm : Int)]) (w' := wd.alloc (.cells #[.int .u32 0, .int .u32 0, .int .u32 0] 68)) 10 rfl (by kernel_rfl) (by go_simp) ?_
          refine ⟨fun _ => kal, ?_⟩
          (simp only [Act.put, List.setIfInBounds_toArray, List.set_cons_zero, List.set_cons_succ])
          generalize wd.alloc (.cells #[.int .u32 0, .int .u32 0, .int .u32 0] 68) = wz at *
          generalize wd.heap.size = B5 at *
          refine ap_one 12 (by kernel_rfl) ?_
          refine op_store_all (t := 68) (cs := #[.int .u32 0, .int .u32 0, .int .u32 0]) (vs := [.int .u32 (q : Int), .int .u32 (b.pn : Int), .int .u32 (sm : Int)]) 12 rfl (by kernel_rfl) rfl rfl rfl HA.out.2 hbn (by simp [Value.oneCell']) rfl ?_
          intro w9 d9 k9
          refine ⟨fun h => (by cases h), ap_done (by kernel_rfl) ?_ _⟩
          (simp only [Act.put])
          have HD9 := Lib.hid d9
          have HS9 : Hid (Keep [] w1 w9) := kal.trans k9 (fun y hy hl => by simp only [List.mem_cons, List.not_mem_nil, or_false] at hy; omega)
          clear k9 d9 hS hPan hG hbn kal hll
          go_wp2_with fail
          go_meet
          case rel => exact ⟨_, rfl, HD9.out, HS9.out⟩
      case rest =>
        obtain ⟨B5, rfl, hb5, k5⟩ := hcut
        generalize wc = w5 at *
        have HB5 := Lib.hid (hb5.alloc (.cells #[.int .u32 (q : Int), .int .u32 (b.pn : Int), .int .u32 (sm : Int)] 68))
        have HH5 := Lib.hid hb5.cellsAt
        have k6 : Keep [] w1 (w5.alloc (.cells #[.int .u32 (q : Int), .int .u32 (b.pn : Int), .int .u32 (sm : Int)] 68)) := k5.alloc _
        have h6 := Blk.new w5 68 #[.int .u32 (q : Int), .int .u32 (b.pn : Int), .int .u32 (sm : Int)]
        have HWR : Hid (Calls Try.prog 108 #[.pointer (some ⟨gb, 0, none⟩), .func (.func 129) #[] #[.pointer (some ⟨w5.heap.size, 0, none⟩)]] (w5.alloc (.cells #[.int .u32 (q : Int), .int .u32 (b.pn : Int), .int .u32 (sm : Int)] 68)) fun e w' => e = .returned (.int .i64 (progsH d (b.base + 1) (headW q b.pn sm)).2) ∧ LeftB (w5.alloc (.cells #[.int .u32 (q : Int), .int .u32 (b.pn : Int), .int .u32 (sm : Int)] 68)) w' gb g b1 b2 (progsH d (b.base + 1) (headW q b.pn sm)).1 { b with opn := false }) :=
          bwrite_any gb g b1 b2 d { b with opn := false } _ (HB1.out.keep0 k6) (HD1.out.keep0 k6) HO.out ⟨HK.out.three, HK.out.fits, HK.out.words⟩ _ _ (headW q b.pn sm) (headW_lt HQ.out (by omega) hcs)
            (fun W k => writes1_seq 8 q b.pn sm _ W HQ.out (by omega) hcs (h6.keep0 k)) (enters_of Try.func129 (by kernel_rfl) rfl)
        have HWS := Lib.hid (writes_any q b.pn sm w5)
        have HOK := Lib.hid (progsH_ok (headW q b.pn sm) d (b.base + 1) HO.out (headW_lt HQ.out (by omega) hcs))
        obtain ⟨d2, e2, hp2⟩ : ∃ d2 e2, progsH d (b.base + 1) (headW q b.pn sm) = (d2, e2) := ⟨_, _, rfl⟩
        rw [hp2] at HWR HCM HOK
        dsimp only at HWR HCM HOK
        have HK6 := Lib.hid (HK1.out.trans k6 (fun y hy _ => by simp at hy))
        clear hb5 k5 k6 h6 hG HVL hp2 HB5
        by_cases h0 : e2 = 0
        · subst h0
          have HCM2 := HCM.out
          rw [if_pos rfl] at HCM2
          have HWC : Hid (∀ W, BankAt W gb g { b with opn := false } → DevAt W g b1 b2 d2 → Calls Try.prog 108 #[.pointer (some ⟨gb, 0, none⟩), .func (.func 131) #[] #[]] W fun e w' => e = .returned (.int .i64 (progsH d2 (b.base + 1) (pairH 6 1668246893)).2) ∧ LeftB W w' gb g b1 b2 (progsH d2 (b.base + 1) (pairH 6 1668246893)).1 { b with opn := false }) := fun W hbw hdw =>
            bwrite_any gb g b1 b2 d2 { b with opn := false } W hbw hdw HOK.out.1 ((⟨HK.out.three, HK.out.fits, HK.out.words⟩ : BkOk d { b with opn := false }).dims HOK.out.2) _ _ (pairH 6 1668246893) (pairH_lt (by decide)) (fun W' _ => commits1_seq 8 W') (enters_of Try.func131 (by kernel_rfl) rfl)
          obtain ⟨d3, e3, hp3⟩ : ∃ d3 e3, progsH d2 (b.base + 1) (pairH 6 1668246893) = (d3, e3) := ⟨_, _, rfl⟩
          rw [hp3] at HWC HCM2
          dsimp only at HWC HCM2
          have HRS := Lib.hid HCM2
          clear HCM2 HCM hp3
          go_wp2_with (first
            | (refine wpList_load_agg rfl 68 (.tmp 5) rfl rfl (cs := [.int .u32 (q : Int), .int .u32 (b.pn : Int), .int .u32 (sm : Int)]) HA.out ?_ ?_; exact HH5.out)
            | (refine HWS.out.mono ?_; rintro e w6 ⟨rfl, rfl⟩)
            | (refine HWR.out.mono ?_; rintro e w7 ⟨rfl, hlf⟩; clear HWR HWS HH5))
          go_wp2_with (refine (HCS w7).out.mono ?_; rintro e w8 ⟨rfl, rfl⟩)
          go_wp2_with (refine (HWC.out w7 hlf.bank hlf.dev).mono ?_; rintro e w9 ⟨rfl, hlg⟩)
          go_ret
          rw [HRS.out]
          exact ⟨rfl, hlg.dev, hlg.bank, (HK6.out.trans hlf.keep (fun y hy _ => hy)).trans hlg.keep (fun y hy _ => hy)⟩
        · have HRS : Hid (res = (d2, { b with opn := false }, e2)) := by show _ = _; rw [HCM.out, if_neg h0]
          have q0 : (e2 == 0) = false := beq_eq_false_iff_ne.2 h0
          have q1 : (e2 = 0) = False := eq_false h0
          have q2 : (e2 != 0) = true := bne_iff_ne.2 h0
          clear HCM
          go_wp2_with (first
            | (refine wpList_load_agg rfl 68 (.tmp 5) rfl rfl (cs := [.int .u32 (q : Int), .int .u32 (b.pn : Int), .int .u32 (sm : Int)]) HA.out ?_ ?_; exact HH5.out)
            | (refine HWS.out.mono ?_; rintro e w6 ⟨rfl, rfl⟩)
            | (refine HWR.out.mono ?_; rintro e w7 ⟨rfl, hlf⟩))
          go_ret
          rw [HRS.out]
          exact ⟨rfl, hlf.dev, hlf.bank, HK6.out.trans hlf.keep (fun y hy _ => hy)⟩
end
end Go.Proofs.Yteanpgkonhdbpaa

namespace Go.Proofs.Yteanpgkonhdbpaa
open Go.RowKit

section
variable (gb g b1 b2 : Nat) (d : Dev) (b : BkS) (w : World) (hb : BankAt w gb g b) (hd : DevAt w g b1 b2 d) (ho : d.Ok) (hk : BkOk d b)
include hb
set_option maxRecDepth 100000 in
set_option maxHeartbeats 1000000 in
theorem bopen_any : Calls Try.prog 28 #[.pointer (some ⟨gb, 0, none⟩)] w fun e w' => e = .returned (.tuple #[.int .i64 (b.pn : Int), .bool b.opn]) ∧ Keep [] w w' := by
  have hG : ∀ W, Keep [] w W → W.cell? ⟨gb, 3, none⟩ = some (.bool b.opn) ∧ W.cell? ⟨gb, 4, none⟩ = some (.int .i64 (b.pn : Int)) ∧ True := fun W k => ⟨(hb.keep0 k).cells.2.2.2.1, (hb.keep0 k).cells.2.2.2.2, trivial⟩
  obtain ⟨c0, c1, c2, c3, c4⟩ := hb.cells
  clear hb
  go_enter Try.func28, Try.ntmps28
  go_upto_region 1 with fail
  refine wp_region_flow (Keep [] w) rfl (by kernel_rfl) (Keep.refl _ _).drew ?_
  iterate 10 (refine fl_val (v := ?_) (by rfl) ?_ ?_; rotate_left; (intro w' hS; obtain ⟨f0,f1,f2⟩ := hG w' hS; go_simp; with_reducible rfl); simp only [Act.put, List.setIfInBounds_toArray, List.set_cons_zero, List.set_cons_succ])
  refine fl_nil ?_
  intro w4 hS
  go_wp2
  go_ret2
  exact ⟨rfl, hS⟩

include hd ho hk
set_option maxRecDepth 100000 in
set_option maxHeartbeats 8000000 in
theorem btry_any : Calls Try.prog 82 #[.pointer (some ⟨gb, 0, none⟩)] w fun e w' => e = .returned (.int .i64 (tryB d b).2) ∧ LeftB w w' gb g b1 b2 (tryB d b).1 b := by
  have hns := ho.ns2
  have hf := hk.fits
  have h3 := hk.three
  have hA : AggOf Try.prog 70 6 := ⟨by kernel_rfl, by kernel_rfl⟩
  have HST := Lib.hid (bstate_any gb g b1 b2 d b w hb hd ho hk)
  have HTR : Hid (tryB d b = if d.on = false then (d, 63) else if (stateB d b).valid = false ∨ (stateB d b).conf = true then (d, 80)
    else match nextT (secB d b 1) 3 0 with
      | none => (d, 80)
      | some i => progS d ((b.base + 1 : Nat) : Int) (i : Int) 0) := show _ = _ from rfl
  obtain ⟨st, hst⟩ : ∃ st, stateB d b = st := ⟨_, rfl⟩
  rw [hst] at HST HTR
  generalize tryB d b = res at *
  clear hst
  have HB := Lib.hid hb
  have HD := Lib.hid hd
  have HON : Hid (∀ W, Keep [] w W → Calls Try.prog 21 #[.pointer (some ⟨g, 0, none⟩)] W fun e w' => e = .returned (.bool d.on) ∧ W = w') := fun W k => fon_any g b1 b2 d W (HD.out.keep0 k)
  have HSE : Hid (∀ W, Keep [] w W → Calls Try.prog 39 #[.pointer (some ⟨g, 0, none⟩), .int .i64 ((b.base + 1 : Nat) : Int)] W (RetWords W (secB d b 1))) := fun W k => by
    have := fsector_any g b1 b2 d ((b.base + 1 : Nat) : Int) W (hd.keep0 k) ho
    unfold sectS at this
    rw [if_pos (by omega)] at this
    exact this
  have hsl : (secB d b 1).length ≤ 100000 := by
    have hnw := ho.nw2
    have : (secB d b 1).length = d.nw := sectL_len d ho (b.base + 1) (by omega)
    omega
  have HNX : Hid (∀ W A n c, (secB d b 1).length = n → Reads W 1 A n (wordsV (secB d b 1)) → Calls Try.prog 124 #[.slice A n c] W fun e w' => e = .returned (nextV (nextT (secB d b 1) 3 0)) ∧ W = w') := fun W A n c hl hr => hnext_any A n c (secB d b 1) W hl hr (by omega)
  obtain ⟨nx, hnx⟩ : ∃ nx, nextT (secB d b 1) 3 0 = nx := ⟨_, rfl⟩
  rw [hnx] at HTR HNX
  generalize secB d b 1 = sl at *
  have HNV : Hid (nextV nx = .tuple #[.int .i64 ((nx.getD 0 : Nat) : Int), .bool nx.isSome]) := show _ = _ from rfl
  have HPR : Hid (∀ W, Keep [] w W → ∀ i : Nat, Calls Try.prog 67 #[.pointer (some ⟨g, 0, none⟩), .int .i64 ((b.base + 1 : Nat) : Int), .int .i64 (i : Int), .int .u32 0] W (Leaves W g b1 b2 (progS d ((b.base + 1 : Nat) : Int) (i : Int) 0).1 (progS d ((b.base + 1 : Nat) : Int) (i : Int) 0).2)) := fun W k i => fprog_any g b1 b2 d _ _ 0 W (HD.out.keep0 k) ho (by decide)
  have hwb : IntKind.i64.wrap ((b.base : Int) + 1) = ((b.base + 1 : Nat) : Int) := by rw [show (b.base : Int) + 1 = ((b.base + 1 : Nat) : Int) by omega]; exact IntWalk.i64_in _ (by omega)
  have HLF : Hid (∀ W, Keep [] w W → LeftB w W gb g b1 b2 d b) := fun W k => ⟨HD.out.keep0 k, HB.out.keep0 k, k.mono (by simp)⟩
  have hG : ∀ W, Keep [] w W → W.cell? ⟨gb, 0, none⟩ = some (.pointer (some ⟨g, 0, none⟩)) ∧ W.cell? ⟨gb, 1, none⟩ = some (.int .i64 (b.base : Int)) ∧ True := fun W k => ⟨(HB.out.keep0 k).cells.1, (HB.out.keep0 k).cells.2.1, trivial⟩
  clear hb hd ho hk hnx
  go_enter Try.func82, Try.ntmps82
  go_wp2_with (first
    | (refine HST.out.mono ?_; rintro e w1 ⟨rfl, k1⟩)
    | (refine stop_store 70 (.tmp 3) (.tmp 7) rfl ?_))
  constructor
  refine wpList_store_all rfl 70 (.tmp 3) (.tmp 7) rfl rfl rfl (t := 70) (cs := #[.int .u32 0, .int .u32 0, .int .u32 0, .bool false, .bool false, .int .i64 0]) (vs := hdCells st) hA.2 (Blk.new _ _ _) (by simp [Value.oneCell']) rfl ?_
  intro w2 d2 k2
  have K02 : Keep [] w w2 := k1.then (((Keep.refl [] w1).alloc _).trans k2 (fun y hy hl => by simp only [List.mem_cons, List.not_mem_nil, or_false] at hy; omega))
  have HBX : Hid (Blk w2 w1.heap.size 70 (hdCells st).toArray) := d2
  have cg := (HB.out.keep0 K02).cells.1
  have HKK := Lib.hid K02
  clear k1 k2 d2 K02 HST
  generalize w1.heap.size = B3 at *
  cases hon : d.on with
  | false =>
    rw [hon] at HON
    have HRS : Hid (res = (d, 63)) := by show _ = _; rw [HTR.out, if_pos hon]
    go_wp2_with (refine (HON.out w2 HKK.out).mono ?_; rintro e w3 ⟨rfl, rfl⟩)
    go_ret
    rw [HRS.out]
    exact ⟨rfl, HLF.out _ HKK.out⟩
  | true =>
    rw [hon] at HON
    have HTR2 := HTR.out
    rw [if_neg (by rw [hon]; decide)] at HTR2
    replace HTR := Lib.hid HTR2
    clear HTR2
    go_upto_region 4 with (refine (HON.out w2 HKK.out).mono ?_; rintro e w3 ⟨rfl, rfl⟩)
    have hG2 : ∀ W, Keep [] w2 W → W.cell? ⟨gb, 0, none⟩ = some (.pointer (some ⟨g, 0, none⟩)) ∧ W.cell? ⟨gb, 1, none⟩ = some (.int .i64 (b.base : Int)) ∧ True := fun W k => hG W (HKK.out.then k)
    go_cut [4, 5] from 6 (fun v4 v5 wx => v4 = .int .i64 ((nx.getD 0 : Nat) : Int) ∧ v5 = .bool nx.isSome ∧ Keep [] w2 wx)
    case first =>
      refine ap_begin 10 (Keep [] w2) rfl (Keep.refl _ _).drew (fun hS hPan => ?_) (fun _ _ d _ _ h => by cases d <;> exact h)
      (refine ap_val (v := ?_) 0 rfl (by kernel_rfl) (by kernel_rfl) (by kernel_rfl) (by kernel_rfl) (by rfl) hPan ?_ hS ?_; rotate_left; (intro w' hSw; go_simp; try with_reducible rfl); simp only [Act.put, List.setIfInBounds_toArray, List.set_cons_zero, List.set_cons_succ])
      (refine ap_val (v := ?_) 1 rfl (by kernel_rfl) (by kernel_rfl) (by kernel_rfl) (by kernel_rfl) (by rfl) hPan ?_ hS ?_; rotate_left; (intro w' hSw; go_simp; try with_reducible rfl); simp only [Act.put, List.setIfInBounds_toArray, List.set_cons_zero, List.set_cons_succ])
      (refine ap_val (v := ?_) 2 rfl (by kernel_rfl) (by kernel_rfl) (by kernel_rfl) (by kernel_rfl) (by rfl) hPan ?_ hS ?_; rotate_left; (intro w' hSw; go_simp; try with_reducible rfl); simp only [Act.put, List.setIfInBounds_toArray, List.set_cons_zero, List.set_cons_succ])
      (refine ap_val (v := ?_) 3 rfl (by kernel_rfl) (by kernel_rfl) (by kernel_rfl) (by kernel_rfl) (by rfl) hPan ?_ hS ?_; rotate_left; (intro w' hSw; obtain ⟨f0,f1,f2⟩ := hG2 w' hSw; go_simp; try with_reducible rfl); simp only [Act.put, List.setIfInBounds_toArray, List.set_cons_zero, List.set_cons_succ])
      (refine ap_val (v := ?_) 4 rfl (by kernel_rfl) (by kernel_rfl) (by kernel_rfl) (by kernel_rfl) (by rfl) hPan ?_ hS ?_; rotate_left; (intro w' hSw; go_simp; try with_reducible rfl); simp only [Act.put, List.setIfInBounds_toArray, List.set_cons_zero, List.set_cons_succ])
      (refine ap_val (v := ?_) 5 rfl (by kernel_rfl) (by kernel_rfl) (by kernel_rfl) (by kernel_rfl) (by rfl) hPan ?_ hS ?_; rotate_left; (intro w' hSw; go_simp; try with_reducible rfl); simp only [Act.put, List.setIfInBounds_toArray, List.set_cons_zero, List.set_cons_succ])
      (refine ap_val (v := ?_) 6 rfl (by kernel_rfl) (by kernel_rfl) (by kernel_rfl) (by kernel_rfl) (by rfl) hPan ?_ hS ?_; rotate_left; (intro w' hSw; go_simp; try with_reducible rfl); simp only [Act.put, List.setIfInBounds_toArray, List.set_cons_zero, List.set_cons_succ])
      (refine ap_val (v := ?_) 7 rfl (by kernel_rfl) (by kernel_rfl) (by kernel_rfl) (by kernel_rfl) (by rfl) hPan ?_ hS ?_; rotate_left; (intro w' hSw; obtain ⟨f0,f1,f2⟩ := hG2 w' hSw; go_simp; try with_reducible rfl); simp only [Act.put, List.setIfInBounds_toArray, List.set_cons_zero, List.set_cons_succ])
      (refine ap_val (v := ?_) 8 rfl (by kernel_rfl) (by kernel_rfl) (by kernel_rfl) (by kernel_rfl) (by rfl) hPan ?_ hS ?_; rotate_left; (intro w' hSw; go_simp; try with_reducible rfl); simp only [Act.put, List.setIfInBounds_toArray, List.set_cons_zero, List.set_cons_succ])
      generalize w2.drew = w4 at *
      refine ap_one 9 (by kernel_rfl) ?_
      refine op_call (f := 39) (vs := #[.pointer (some ⟨g, 0, none⟩), .int .i64 ((b.base + 1 : Nat) : Int)]) 9 rfl (by kernel_rfl) rfl (by simp only [List.map_toArray, List.map_cons, List.map_nil]; rfl) Try.func39 (by kernel_rfl) (by kernel_rfl) (HSE.out w4 (HKK.out.then hS)) ?_
      rintro e w5 ⟨A, c, rfl, hown, k5⟩
      have hrd := Reads.of_own hown
      have K5 : Keep [] w2 w5 := hS.then k5
      refine ⟨_, rfl, fun _ => K5, ?_⟩
      (simp only [Act.put, List.setIfInBounds_toArray, List.set_cons_zero, List.set_cons_succ])
      refine ap_one 10 (by kernel_rfl) ?_
      refine op_call (f := 124) (vs := #[.slice A sl.length c]) 10 rfl (by kernel_rfl) rfl (by simp only [List.map_toArray, List.map_cons, List.map_nil]; rfl) Try.func124 (by kernel_rfl) (by kernel_rfl) (HNX.out w5 A _ c rfl hrd) ?_
      rintro e w6 ⟨rfl, rfl⟩
      refine ⟨_, rfl, fun _ => K5, ?_⟩
      (simp only [Act.put, List.setIfInBounds_toArray, List.set_cons_zero, List.set_cons_succ])
      have HK5 := Lib.hid K5
      clear hown hrd hS k5 K5 hG2 hPan
      rw [HNV.out]
      refine ap_one 11 (by kernel_rfl) ?_
      refine op_run (v := .tuple #[.int .i64 ((nx.getD 0 : Nat) : Int), .bool nx.isSome]) (w' := w5) 11 rfl (by kernel_rfl) (by go_simp) ?_
      refine ⟨fun h => (by cases h), ?_⟩
      (simp only [Act.put, List.setIfInBounds_toArray, List.set_cons_zero, List.set_cons_succ])
      refine ap_twoJ 12 13 (by kernel_rfl) ?x1 ?y1
      case x1 =>
        refine op_run (v := .int .i64 ((nx.getD 0 : Nat) : Int)) (w' := w5) 12 rfl (by kernel_rfl) (by go_simp) ?_
        refine ⟨fun h => (by cases h), ?_⟩
        (simp only [Act.put, List.setIfInBounds_toArray, List.set_cons_zero, List.set_cons_succ])
        refine ap_twoJ 13 14 (by kernel_rfl) ?x2 ?y2
        case x2 =>
          refine op_run (v := .bool nx.isSome) (w' := w5) 13 rfl (by kernel_rfl) (by go_simp) ?_
          refine ⟨fun h => (by cases h), ?_⟩
          (simp only [Act.put, List.setIfInBounds_toArray, List.set_cons_zero, List.set_cons_succ])
          refine ap_one 14 (by kernel_rfl) ?_
          refine op_run (v := .int .i64 ((nx.getD 0 : Nat) : Int)) (w' := w5) 14 rfl (by kernel_rfl) (by go_simp) ?_
          refine ⟨fun h => (by cases h), ?_⟩
          (simp only [Act.put, List.setIfInBounds_toArray, List.set_cons_zero, List.set_cons_succ])
          refine ap_one 15 (by kernel_rfl) ?_
          refine op_run (v := .bool nx.isSome) (w' := w5) 15 rfl (by kernel_rfl) (by go_simp) ?_
          refine ⟨fun h => (by cases h), ap_done (by kernel_rfl) ?_ _⟩
          (simp only [Act.put, List.setIfInBounds_toArray, List.set_cons_zero, List.set_cons_succ])
          go_wp2_with fail
          go_meet
          case rel => exact ⟨rfl, rfl, HK5.out⟩
        case y2 =>
          refine op_run (v := .int .i64 ((nx.getD 0 : Nat) : Int)) (w' := w5) 14 rfl (by kernel_rfl) (by go_simp) ?_
          refine ⟨fun h => (by cases h), ?_⟩
          (simp only [Act.put, List.setIfInBounds_toArray, List.set_cons_zero, List.set_cons_succ])
          refine ap_one 13 (by kernel_rfl) ?_
          refine op_run (v := .bool nx.isSome) (w' := w5) 13 rfl (by kernel_rfl) (by go_simp) ?_
          refine ⟨fun h => (by cases h), ?_⟩
          (simp only [Act.put, List.setIfInBounds_toArray, List.set_cons_zero, List.set_cons_succ])
          refine ap_one 15 (by kernel_rfl) ?_
          refine op_run (v := .bool nx.isSome) (w' := w5) 15 rfl (by kernel_rfl) (by go_simp) ?_
          refine ⟨fun h => (by cases h), ap_done (by kernel_rfl) ?_ _⟩
          (simp only [Act.put, List.setIfInBounds_toArray, List.set_cons_zero, List.set_cons_succ])
          go_wp2_with fail
          go_meet
          case rel => exact ⟨rfl, rfl, HK5.out⟩
      case y1 =>
        refine op_run (v := .bool nx.isSome) (w' := w5) 13 rfl (by kernel_rfl) (by go_simp) ?_
        refine ⟨fun h => (by cases h), ?_⟩
        (simp only [Act.put, List.setIfInBounds_toArray, List.set_cons_zero, List.set_cons_succ])
        refine ap_one 12 (by kernel_rfl) ?_
        refine op_run (v := .int .i64 ((nx.getD 0 : Nat) : Int)) (w' := w5) 12 rfl (by kernel_rfl) (by go_simp) ?_
        refine ⟨fun h => (by cases h), ?_⟩
        (simp only [Act.put, List.setIfInBounds_toArray, List.set_cons_zero, List.set_cons_succ])
        refine ap_one 14 (by kernel_rfl) ?_
        refine op_run (v := .int .i64 ((nx.getD 0 : Nat) : Int)) (w' := w5) 14 rfl (by kernel_rfl) (by go_simp) ?_
        refine ⟨fun h => (by cases h), ?_⟩
        (simp only [Act.put, List.setIfInBounds_toArray, List.set_cons_zero, List.set_cons_succ])
        refine ap_one 15 (by kernel_rfl) ?_
        refine op_run (v := .bool nx.isSome) (w' := w5) 15 rfl (by kernel_rfl) (by go_simp) ?_
        refine ⟨fun h => (by cases h), ap_done (by kernel_rfl) ?_ _⟩
        (simp only [Act.put, List.setIfInBounds_toArray, List.set_cons_zero, List.set_cons_succ])
        go_wp2_with fail
        go_meet
        case rel => exact ⟨rfl, rfl, HK5.out⟩
    obtain ⟨rfl, rfl, kc⟩ := hcut
    generalize wc = w5 at *
    have HB5 := Lib.hid (HBX.out.keep0 kc)
    have HK5 := Lib.hid (HKK.out.then kc)
    have c31 : w5.cell? ⟨B3, 3, none⟩ = some (.bool st.valid) := HB5.out.cell 3
    have c32 : w5.cell? ⟨B3, 4, none⟩ = some (.bool st.conf) := HB5.out.cell 4
    clear kc cg hG2 HSE HNX
    by_cases hvc : st.valid = false ∨ st.conf = true
    · have HRS : Hid (res = (d, 80)) := by show _ = _; rw [HTR.out, if_pos hvc]
      cases hv : st.valid with
      | false =>
        rw [hv] at c31
        go_wp2
        go_ret
        rw [HRS.out]
        exact ⟨rfl, HLF.out _ HK5.out⟩
      | true =>
        have hc : st.conf = true := hvc.resolve_left (by rw [hv]; decide)
        rw [hv] at c31
        rw [hc] at c32
        go_wp2
        go_ret
        rw [HRS.out]
        exact ⟨rfl, HLF.out _ HK5.out⟩
    · have hv : st.valid = true := by cases h : st.valid with | true => rfl | false => exact absurd (.inl h) hvc
      have hc : st.conf = false := by cases h : st.conf with | false => rfl | true => exact absurd (.inr h) hvc
      have HTR2 := HTR.out
      rw [if_neg hvc] at HTR2
      replace HTR := Lib.hid HTR2
      rw [hv] at c31
      rw [hc] at c32
      clear HTR2 hvc
      cases nx with
      | none =>
        have HRS : Hid (res = (d, 80)) := HTR.out
        go_wp2
        go_ret
        rw [HRS.out]
        exact ⟨rfl, HLF.out _ HK5.out⟩
      | some i =>
        have HRS : Hid (res = progS d ((b.base + 1 : Nat) : Int) (i : Int) 0) := HTR.out
        go_upto_region 7 with fail
        have hG2 : ∀ W, Keep [] w5 W → W.cell? ⟨gb, 0, none⟩ = some (.pointer (some ⟨g, 0, none⟩)) ∧ W.cell? ⟨gb, 1, none⟩ = some (.int .i64 (b.base : Int)) ∧ True := fun W k => hG W (HK5.out.then k)
        refine wp_region_flow_tail 10 (Keep [] w5) rfl (by kernel_rfl) (Keep.refl _ _).drew ?_
        iterate 10 (refine fl_val (v := ?_) (by rfl) ?_ ?_; rotate_left; (intro w' hS; obtain ⟨f0,f1,f2⟩ := hG2 w' hS; go_simp; with_reducible rfl); simp only [Act.put, List.setIfInBounds_toArray, List.set_cons_zero, List.set_cons_succ])
        refine fl_nil ?_
        intro w7 hS
        have K7 := HK5.out.then hS
        have HK7 := Lib.hid K7
        have HPQ := Lib.hid (HPR.out w7 K7 i)
        have hn7 := bank_ne (HD.out.keep0 K7) (HB.out.keep0 K7)
        have HB7 := Lib.hid (HB.out.keep0 K7)
        obtain ⟨d5, e5, hp5⟩ : ∃ d5 e5, progS d ((b.base + 1 : Nat) : Int) (i : Int) 0 = (d5, e5) := ⟨_, _, rfl⟩
        rw [hp5] at HRS HPQ
        dsimp only at HPQ
        clear hS K7 hp5 hG2 hG
        go_wp2_with (refine HPQ.out.mono ?_; rintro e w8 ⟨rfl, hd8, k8⟩)
        go_ret
        rw [HRS.out]
        exact ⟨rfl, hd8, Blk.keep HB7.out k8 (by simp only [List.mem_cons, List.not_mem_nil, or_false]; omega), (HK7.out.mono (by simp)).trans k8 (fun y hy _ => by simp only [List.mem_cons, List.not_mem_nil, or_false] at hy ⊢; omega)⟩
end
end Go.Proofs.Yteanpgkonhdbpaa
