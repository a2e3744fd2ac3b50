/- header.NextTrial; bank.Commit, Confirm, Try, walked. Condition: the device is one that may be, the bank one that fits. -/
import Derived.Test.YteanpgkonhdbpaaBkX
import Derived.Test.YteanpgkonhdbpaaBkB
namespace Go.Proofs.Yteanpgkonhdbpaa
open Go.RowKit

/-- The next trial's word, of those from one on. -/
def nextT (l : List Nat) : Nat → Nat → Option Nat
  | 0, _ => none
  | f + 1, k => if atH l (10 + k) = 4294967295 then some (10 + k) else nextT l f (k + 1)
def nextV (r : Option Nat) : Value := .tuple #[.int .i64 ((r.getD 0 : Nat) : Int), .bool r.isSome]

set_option maxRecDepth 100000 in
set_option maxHeartbeats 2000000 in
theorem hnext_any (A : Option Addr) (n c : Nat) (l : List Nat) (w : World) (hl : l.length = n) (hr : Reads w 1 A n (wordsV l)) (hn : n ≤ 100000) :
    Calls Try.prog 124 #[.slice A n c] w fun e w' => e = .returned (nextV (nextT l 3 0)) ∧ w = w' := by
  have HR := Lib.hid hr
  have HL := Lib.hid hl
  have HV : Hid (∀ r, nextV r = .tuple #[.int .i64 ((r.getD 0 : Nat) : Int), .bool r.isSome]) := fun r => rfl
  obtain ⟨r, hrr⟩ : ∃ r, nextT l 3 0 = r := ⟨_, rfl⟩
  have HRR := Lib.hid hrr
  rw [hrr]
  clear hr hl hrr
  go_enter Try.func124, Try.ntmps124
  go_wp2
  go_loop [5] (fun v5 => ∃ k : Nat, k ≤ 3 ∧ v5 = .int .i64 (k : Int) ∧ nextT l (3 - k) k = r) (fun v5 => 3 - (intOf v5).toNat)
  case atStart => exact ⟨0, Nat.zero_le _, rfl, HRR.out⟩
  case round =>
    obtain ⟨k, hk, rfl, hnx⟩ := hrel
    have HNX := Lib.hid hnx
    clear hnx
    by_cases hlt : k < 3
    · have HS : Hid (nextT l (3 - k) k = if atH l (10 + k) = 4294967295 then some (10 + k) else nextT l (3 - (k + 1)) (k + 1)) := by
        show _ = _
        rw [show 3 - k = (3 - (k + 1)) + 1 by omega]
        rfl
      have hw1 : IntKind.i64.wrap (10 + (k : Int)) = ((10 + k : Nat) : Int) := by rw [show 10 + (k : Int) = ((10 + k : Nat) : Int) by omega]; exact IntWalk.i64_in _ (by omega)
      have hwk : IntKind.i64.wrap ((k : Int) + 1) = ((k + 1 : Nat) : Int) := by rw [show (k : Int) + 1 = ((k + 1 : Nat) : Int) by omega]; exact IntWalk.i64_in _ (by omega)
      by_cases hin : 10 + k < n
      · have hil : 10 + k < l.length := by rw [HL.out]; exact hin
        obtain ⟨bo, oo, rfl, hb, hcs⟩ := HR.out.addr (by omega)
        have hx : w.cell? ⟨bo, oo + (10 + k), none⟩ = some (.int .u32 ((atH l (10 + k) : Nat) : Int)) := hcs (10 + k) _ (by rw [List.getElem?_map, List.getElem?_eq_getElem hil]; simp [atH, hil])
        have q0 : decide ((n : Int) ≤ 10 + (k : Int)) = false := decide_eq_false (by omega)
        have q0' : decide ((n : Int) ≤ ((10 + k : Nat) : Int)) = false := decide_eq_false (by omega)
        have p0 : (n ≤ 10 + k) = False := eq_false (by omega)
        have p1 : ((n : Int) ≤ 10 + (k : Int)) = False := eq_false (by omega)
        have z1 : (0 : Int) ≤ 10 + (k : Int) := by omega
        have z2 : 10 + (k : Int) < (n : Int) := by omega
        have z3 : (10 + (k : Int)).toNat = 10 + k := by omega
        clear hcs
        by_cases hu : atH l (10 + k) = 4294967295
        · have HRS : Hid (r = some (10 + k)) := by show _ = _; rw [← HNX.out, HS.out, if_pos hu]
          rw [hu] at hx
          have hx' : w.cell? ⟨bo, oo + (10 + k), none⟩ = some (.int .u32 4294967295) := hx
          clear hx hu
          go_wp2
          go_ret2
          rw [HRS.out, HV.out]
          exact ⟨rfl, rfl⟩
        · have HRS : Hid (nextT l (3 - (k + 1)) (k + 1) = r) := by show _ = _; rw [← HNX.out, HS.out, if_neg hu]
          have hne : ((atH l (10 + k) : Nat) : Int) ≠ 4294967295 := by omega
          have hne1 : (((atH l (10 + k) : Nat) : Int) == 4294967295) = false := beq_eq_false_iff_ne.2 hne
          have hne2 : (((atH l (10 + k) : Nat) : Int) = 4294967295) = False := eq_false hne
          have hne3 : (atH l (10 + k) = 4294967295) = False := eq_false hu
          generalize atH l (10 + k) = x at *
          clear hu hne
          go_wp2
          go_round
          case rel => exact ⟨k + 1, by omega, by go_num, HRS.out⟩
          case measure => simp [intOf]; omega
      · have hu : atH l (10 + k) = 4294967295 := by unfold atH; rw [List.getD_eq_getElem?_getD, List.getElem?_eq_none (by have := HL.out; omega)]; rfl
        have HRS : Hid (r = some (10 + k)) := by show _ = _; rw [← HNX.out, HS.out, if_pos hu]
        have q0 : decide ((n : Int) ≤ 10 + (k : Int)) = true := decide_eq_true (by omega)
        have q0' : decide ((n : Int) ≤ ((10 + k : Nat) : Int)) = true := decide_eq_true (by omega)
        have p0 : (n ≤ 10 + k) = True := eq_true (by omega)
        have p1 : ((n : Int) ≤ 10 + (k : Int)) = True := eq_true (by omega)
        clear hu
        go_wp2
        go_ret2
        rw [HRS.out, HV.out]
        exact ⟨rfl, rfl⟩
    · obtain rfl : k = 3 := by omega
      have HRS : Hid (r = none) := by show _ = _; rw [← HNX.out]; rfl
      go_wp2
      go_ret2
      rw [HRS.out, HV.out]
      exact ⟨rfl, rfl⟩

def commitB (d : Dev) (b : BkS) (q : Nat) : Dev × BkS × Int :=
  if b.opn = false ∨ b.pn = 0 then (d, b, 80)
  else if (progsH d (b.base + 1) (headW q b.pn (cplJ b.s))).2 = 0 then
    ((progsH (progsH d (b.base + 1) (headW q b.pn (cplJ b.s))).1 (b.base + 1) (pairH 6 1668246893)).1, { b with opn := false }, (progsH (progsH d (b.base + 1) (headW q b.pn (cplJ b.s))).1 (b.base + 1) (pairH 6 1668246893)).2)
  else ((progsH d (b.base + 1) (headW q b.pn (cplJ b.s))).1, { b with opn := false }, (progsH d (b.base + 1) (headW q b.pn (cplJ b.s))).2)
def confirmB (d : Dev) (b : BkS) : Dev × Int :=
  if d.on = false then (d, 63) else if (stateB d b).valid = false ∨ (stateB d b).conf = true then (d, 80)
  else ((progsH d (b.base + 1) (pairH 8 1668247142)).1, if (progsH d (b.base + 1) (pairH 8 1668247142)).2 = 61 then 80 else (progsH d (b.base + 1) (pairH 8 1668247142)).2)
def tryB (d : Dev) (b : BkS) : Dev × Int :=
  if d.on = false then (d, 63) else if (stateB d b).valid = false ∨ (stateB d b).conf = true then (d, 80)
  else match nextT (secB d b 1) 3 0 with
    | none => (d, 80)
    | some i => progS d ((b.base + 1 : Nat) : Int) (i : Int) 0
theorem headW_lt {q n c : Nat} (h1 : q < 4294967296) (h2 : n < 4294967296) (h3 : c < 4294967296) : ∀ x ∈ headW q n c, x.2 < 4294967296 := by
  intro x hx
  have := cpl_lt q
  have := cpl_lt n
  have := cpl_lt c
  simp only [headW, pairH, List.mem_append, List.mem_cons, List.not_mem_nil, or_false] at hx
  rcases hx with ((rfl | rfl) | (rfl | rfl)) | (rfl | rfl) <;> assumption
theorem pairH_lt {a x : Nat} (h : x < 4294967296) : ∀ y ∈ pairH a x, y.2 < 4294967296 := by
  intro y hy
  have := cpl_lt x
  simp only [pairH, List.mem_cons, List.not_mem_nil, or_false] at hy
  rcases hy with rfl | rfl <;> assumption

section
variable (gb g b1 b2 : Nat) (d : Dev) (b : BkS) (w : World) (hb : BankAt w gb g b) (hd : DevAt w g b1 b2 d) (ho : d.Ok) (hk : BkOk d b)
include hb hd ho hk
set_option maxRecDepth 100000 in
set_option maxHeartbeats 4000000 in
theorem bconfirm_any : Calls Try.prog 83 #[.pointer (some ⟨gb, 0, none⟩)] w fun e w' => e = .returned (.int .i64 (confirmB d b).2) ∧ LeftB w w' gb g b1 b2 (confirmB d b).1 b := by
  have hA : AggOf Try.prog 70 6 := ⟨by kernel_rfl, by kernel_rfl⟩
  have HST := Lib.hid (bstate_any gb g b1 b2 d b w hb hd ho hk)
  have HCF : Hid (confirmB d b = if d.on = false then (d, 63) else if (stateB d b).valid = false ∨ (stateB d b).conf = true then (d, 80)
    else ((progsH d (b.base + 1) (pairH 8 1668247142)).1, if (progsH d (b.base + 1) (pairH 8 1668247142)).2 = 61 then 80 else (progsH d (b.base + 1) (pairH 8 1668247142)).2)) := show _ = _ from rfl
  obtain ⟨st, hst⟩ : ∃ st, stateB d b = st := ⟨_, rfl⟩
  rw [hst] at HST HCF
  generalize confirmB d b = res at *
  clear hst
  have HB := Lib.hid hb
  have HD := Lib.hid hd
  have HON : Hid (∀ W, Keep [] w W → Calls Try.prog 21 #[.pointer (some ⟨g, 0, none⟩)] W fun e w' => e = .returned (.bool d.on) ∧ W = w') := fun W k => fon_any g b1 b2 d W (HD.out.keep0 k)
  have HWR : Hid (∀ W, Keep [] w W → Calls Try.prog 108 #[.pointer (some ⟨gb, 0, none⟩), .func (.func 139) #[] #[]] W fun e w' => e = .returned (.int .i64 (progsH d (b.base + 1) (pairH 8 1668247142)).2) ∧ LeftB W w' gb g b1 b2 (progsH d (b.base + 1) (pairH 8 1668247142)).1 b) := fun W k =>
    bwrite_any gb g b1 b2 d b W (HB.out.keep0 k) (HD.out.keep0 k) ho hk _ _ (pairH 8 1668247142) (pairH_lt (by decide)) (fun W' _ => confirms1_seq 8 W') (enters_of Try.func139 (by kernel_rfl) rfl)
  have HCS := fun W => Lib.hid (confirms_any W)
  obtain ⟨d5, e5, hp5⟩ : ∃ d5 e5, progsH d (b.base + 1) (pairH 8 1668247142) = (d5, e5) := ⟨_, _, rfl⟩
  rw [hp5] at HWR HCF
  dsimp only at HWR HCF
  have HLF : Hid (∀ W, Keep [] w W → LeftB w W gb g b1 b2 d b) := fun W k => ⟨HD.out.keep0 k, HB.out.keep0 k, k.mono (by simp)⟩
  clear hb hd ho hk hp5
  go_enter Try.func83, Try.ntmps83
  go_wp2_with (first
    | (refine HST.out.mono ?_; rintro e w1 ⟨rfl, k1⟩)
    | (refine stop_store 70 (.tmp 3) (.tmp 6) rfl ?_))
  constructor
  refine wpList_store_all rfl 70 (.tmp 3) (.tmp 6) rfl rfl rfl (t := 70) (cs := #[.int .u32 0, .int .u32 0, .int .u32 0, .bool false, .bool false, .int .i64 0]) (vs := hdCells st) hA.2 (Blk.new _ _ _) (by simp [Value.oneCell']) rfl ?_
  intro w2 d2 k2
  have K02 : Keep [] w w2 := k1.then (((Keep.refl [] w1).alloc _).trans k2 (fun y hy hl => by simp only [List.mem_cons, List.not_mem_nil, or_false] at hy; omega))
  have c33 : w2.cell? ⟨w1.heap.size, 3, none⟩ = some (.bool st.valid) := d2.cell 3
  have c34 : w2.cell? ⟨w1.heap.size, 4, none⟩ = some (.bool st.conf) := d2.cell 4
  have cg := (HB.out.keep0 K02).cells.1
  have HKK := Lib.hid K02
  clear k1 k2 d2 K02 HST
  generalize w1.heap.size = B3 at *
  cases hon : d.on with
  | false =>
    rw [hon] at HON
    have HRS : Hid (res = (d, 63)) := by show _ = _; rw [HCF.out, if_pos hon]
    go_wp2_with (refine (HON.out w2 HKK.out).mono ?_; rintro e w3 ⟨rfl, rfl⟩)
    go_ret
    rw [HRS.out]
    exact ⟨rfl, HLF.out _ HKK.out⟩
  | true =>
    rw [hon] at HON
    cases hv : st.valid with
    | false =>
      rw [hv] at c33
      have HRS : Hid (res = (d, 80)) := by show _ = _; rw [HCF.out, if_neg (by rw [hon]; decide), if_pos (.inl hv)]
      go_wp2_with (refine (HON.out w2 HKK.out).mono ?_; rintro e w3 ⟨rfl, rfl⟩)
      go_ret
      rw [HRS.out]
      exact ⟨rfl, HLF.out _ HKK.out⟩
    | true =>
      rw [hv] at c33
      cases hc : st.conf with
      | true =>
        rw [hc] at c34
        have HRS : Hid (res = (d, 80)) := by show _ = _; rw [HCF.out, if_neg (by rw [hon]; decide), if_pos (.inr hc)]
        go_wp2_with (refine (HON.out w2 HKK.out).mono ?_; rintro e w3 ⟨rfl, rfl⟩)
        go_ret
        rw [HRS.out]
        exact ⟨rfl, HLF.out _ HKK.out⟩
      | false =>
        rw [hc] at c34
        by_cases h61 : e5 = 61
        · subst h61
          have HRS : Hid (res = (d5, 80)) := by show _ = _; rw [HCF.out, if_neg (by rw [hon]; decide), if_neg (by rw [hv, hc]; decide), if_pos rfl]
          go_wp2_with (first
            | (refine (HON.out w2 HKK.out).mono ?_; rintro e w3 ⟨rfl, rfl⟩)
            | (refine (HCS w2).out.mono ?_; rintro e w3 ⟨rfl, rfl⟩)
            | (refine (HWR.out w2 HKK.out).mono ?_; rintro e w3 ⟨rfl, hlf⟩))
          go_ret
          rw [HRS.out]
          exact ⟨rfl, hlf.dev, hlf.bank, (HKK.out.mono (by simp)).trans hlf.keep (fun y hy _ => hy)⟩
        · have HRS : Hid (res = (d5, e5)) := by show _ = _; rw [HCF.out, if_neg (by rw [hon]; decide), if_neg (by rw [hv, hc]; decide), if_neg h61]
          have q0 : (e5 == 61) = false := beq_eq_false_iff_ne.2 h61
          have q1 : (e5 = 61) = False := eq_false h61
          have q2 : (e5 != 61) = true := bne_iff_ne.2 h61
          go_wp2_with (first
            | (refine (HON.out w2 HKK.out).mono ?_; rintro e w3 ⟨rfl, rfl⟩)
            | (refine (HCS w2).out.mono ?_; rintro e w3 ⟨rfl, rfl⟩)
            | (refine (HWR.out w2 HKK.out).mono ?_; rintro e w3 ⟨rfl, hlf⟩))
          go_ret
          rw [HRS.out]
          exact ⟨rfl, hlf.dev, hlf.bank, (HKK.out.mono (by simp)).trans hlf.keep (fun y hy _ => hy)⟩
end
end Go.Proofs.Yteanpgkonhdbpaa
