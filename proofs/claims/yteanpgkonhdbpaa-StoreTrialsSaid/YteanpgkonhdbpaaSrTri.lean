/- StoreTrials, walked: an image on trial may be started three times. No condition. -/
import Derived.Test.YteanpgkonhdbpaaSrKeep
import Derived.Deep.DeepCutAuto
namespace Go.Proofs.Yteanpgkonhdbpaa
open Go.RowKit

section
variable {bs : Nat} {w wr : World} {g b1 b2 : Nat} {v : StW} {s : StS}
theorem LawS.list_head (h : LawS bs w wr g b1 b2 v s) {c0 : Cnd} {L : List Cnd} (hL : candsS s = c0 :: L) : Calls Try.prog 45 #[.pointer (some ⟨v.gs, 0, none⟩)] wr fun e w' =>
    ∃ b o cp q u, e = .returned (.slice (some ⟨b, o, none⟩) (L.length + 1) cp) ∧ w'.cell? ⟨b, o, none⟩ = some (.int .i64 (c0.bank : Int)) ∧ w'.cell? ⟨b, o + 3, none⟩ = some (.slice q c0.words.length u) ∧ Reads w' 1 q c0.words.length (wordsV c0.words) ∧ LawS bs w w' g b1 b2 v s := by
  refine (slist_any v s wr h.at_ h.ok (cands_two s)).mono ?_
  intro e w' hr
  rw [hL] at hr
  obtain ⟨A', c, ps, hp, rfl, hc, hws, k⟩ := hr.opened
  obtain ⟨b, o, rfl, hb, hcc⟩ := hc (by simp)
  cases ps with
  | nil => cases hp
  | cons p ps =>
    simp only [List.map_cons, List.cons.injEq] at hp
    obtain ⟨rfl, _⟩ := hp
    have f := hcc 0 (by simp)
    have f0 := f 0 _ rfl
    have f3 := f 3 _ rfl
    try rw [Nat.zero_mul, Nat.add_zero, Nat.add_zero] at f0
    rw [Nat.zero_mul, Nat.add_zero] at f3
    exact ⟨b, o, c, p.a, p.p, rfl, f0, f3, hws p (by simp), h.keep0 k⟩
theorem LawS.row_any (h : LawS bs w wr g b1 b2 v s) {A q : Option Addr} {l : List Nat} (u c : Nat) (hI : WordsAt w A l) (hl : l.length ≤ 32) (hr : Reads wr 1 q l.length (wordsV l)) : Calls Try.prog 55 #[.slice q l.length u, .slice A l.length c] wr fun e w' => e = .returned (.bool true) ∧ LawS bs w w' g b1 b2 v s := by
  refine (srow_any q A u c l l wr hr (hI.rows.keep0 h.keep) (by omega) (by omega)).mono ?_
  rintro e w' ⟨rfl, k⟩
  exact ⟨by simp, h.keep0 k⟩
theorem LawS.cycle_any (h : LawS bs w wr g b1 b2 v s) (hon : s.d.on = true) : Calls Try.prog 15 #[.pointer (some ⟨g, 0, none⟩), .bool false] wr fun e w' => e = .returned (.tuple #[]) ∧
    Calls Try.prog 15 #[.pointer (some ⟨g, 0, none⟩), .bool true] w' fun e w2 => e = .returned (.tuple #[]) ∧ LawS bs w w2 g b1 b2 v s := by
  refine (h.power_any false).mono ?_
  rintro e w' ⟨rfl, h1⟩
  refine ⟨rfl, (h1.power_any true).mono ?_⟩
  rintro e w2 ⟨rfl, h2⟩
  have e1 : powerS (powerS s.d false) true = s.d := by
    unfold powerS
    rw [← hon]
  have e2 : ({ ({ s with d := powerS s.d false } : StS) with d := powerS (powerS s.d false) true } : StS) = s := by
    rw [e1]
  have h2' : LawS bs w w2 g b1 b2 v { ({ s with d := powerS s.d false } : StS) with d := powerS (powerS s.d false) true } := h2
  rw [e2] at h2'
  exact ⟨rfl, h2'⟩
end
/-- What holds behind i starts. -/
structure TriAt (s : StS) (a b : List Nat) (i : Nat) : Prop where
  two : Two s a b false (min i 3)
  r0 : i = 0 → s.r = 0
  r1 : 0 < i → s.r = 1
theorem TriAt.next {s : StS} {a b : List Nat} {i : Nat} (h : TriAt s a b i) (hi : i < 3) : ∃ s', startSr s 1 = (s', 0) ∧ TriAt s' a b (i + 1) ∧ confS s' = false ∧ beginSr s' = (s', 80) := by
  have h2 := h.two
  rw [show min i 3 = i by omega] at h2
  obtain ⟨s', e, t, r⟩ := h2.start hi
  obtain ⟨c1, c2⟩ := t.trial r
  refine ⟨s', e, ⟨by rw [show min (i + 1) 3 = i + 1 by omega]; exact t, fun h0 => by omega, fun _ => r⟩, c1, ?_⟩
  unfold beginSr
  rw [if_neg (by rw [c2 rfl]; decide), c2 rfl]
theorem TriAt.spent {s : StS} {a b : List Nat} {i : Nat} (h : TriAt s a b i) (hi : 3 ≤ i) : startSr s 1 = (s, 80) ∧ TriAt s a b (i + 1) := by
  have h2 := h.two
  rw [show min i 3 = 3 by omega] at h2
  exact ⟨h2.spent, ⟨by rw [show min (i + 1) 3 = 3 by omega]; exact h2, fun h0 => by omega, fun _ => h.r1 (by omega)⟩⟩


set_option maxRecDepth 100000 in
set_option maxHeartbeats 4000000 in
theorem strials_bad (A : Option Addr) (cA : Nat) (a : List Nat) (B : Option Addr) (cB : Nat) (b : List Nat) (n : Int) (w : World) (hlA : a.length ≤ maxLen) (hlB : b.length ≤ maxLen) (h : a.length < 1 ∨ 32 < a.length ∨ b.length < 1 ∨ 32 < b.length ∨ n < 0 ∨ 10 < n) :
    Calls Try.prog 11 #[.slice A a.length cA, .slice B b.length cB, .int .i64 n] w fun e w' => e = .returned (.bool true) ∧ Keep [] w w' := by
  unfold maxLen at hlA hlB
  generalize a.length = la at *
  generalize b.length = lb at *

  by_cases g0 : (la : Int) < 1
  · have q0 : decide ((la : Int) < 1) = true := decide_eq_true g0
    have r0 : ((la : Int) < 1) = True := eq_true g0
    have t0 : (la < 1) = True := eq_true (by omega)
    clear h
    go_enter Try.func11, Try.ntmps11
    go_wp2
    go_ret
    exact ⟨rfl, Keep.refl _ _⟩
  have q0 : decide ((la : Int) < 1) = false := decide_eq_false g0
  have r0 : ((la : Int) < 1) = False := eq_false g0
  have t0 : (la < 1) = False := eq_false (by omega)
  by_cases g1 : (32 : Int) < (la : Int)
  · have q1 : decide ((32 : Int) < (la : Int)) = true := decide_eq_true g1
    have r1 : ((32 : Int) < (la : Int)) = True := eq_true g1
    have t1 : (32 < la) = True := eq_true (by omega)
    clear h
    go_enter Try.func11, Try.ntmps11
    go_wp2
    go_ret
    exact ⟨rfl, Keep.refl _ _⟩
  have q1 : decide ((32 : Int) < (la : Int)) = false := decide_eq_false g1
  have r1 : ((32 : Int) < (la : Int)) = False := eq_false g1
  have t1 : (32 < la) = False := eq_false (by omega)
  by_cases g2 : (lb : Int) < 1
  · have q2 : decide ((lb : Int) < 1) = true := decide_eq_true g2
    have r2 : ((lb : Int) < 1) = True := eq_true g2
    have t2 : (lb < 1) = True := eq_true (by omega)
    clear h
    go_enter Try.func11, Try.ntmps11
    go_wp2
    go_ret
    exact ⟨rfl, Keep.refl _ _⟩
  have q2 : decide ((lb : Int) < 1) = false := decide_eq_false g2
  have r2 : ((lb : Int) < 1) = False := eq_false g2
  have t2 : (lb < 1) = False := eq_false (by omega)
  by_cases g3 : (32 : Int) < (lb : Int)
  · have q3 : decide ((32 : Int) < (lb : Int)) = true := decide_eq_true g3
    have r3 : ((32 : Int) < (lb : Int)) = True := eq_true g3
    have t3 : (32 < lb) = True := eq_true (by omega)
    clear h
    go_enter Try.func11, Try.ntmps11
    go_wp2
    go_ret
    exact ⟨rfl, Keep.refl _ _⟩
  have q3 : decide ((32 : Int) < (lb : Int)) = false := decide_eq_false g3
  have r3 : ((32 : Int) < (lb : Int)) = False := eq_false g3
  have t3 : (32 < lb) = False := eq_false (by omega)
  by_cases g4 : n < 0
  · have q4 : decide (n < 0) = true := decide_eq_true g4
    have r4 : (n < 0) = True := eq_true g4
    clear h
    go_enter Try.func11, Try.ntmps11
    go_wp2
    go_ret
    exact ⟨rfl, Keep.refl _ _⟩
  have q4 : decide (n < 0) = false := decide_eq_false g4
  have r4 : (n < 0) = False := eq_false g4
  have g5 : 10 < n := by omega
  have q5 : decide (10 < n) = true := decide_eq_true g5
  have r5 : (10 < n) = True := eq_true g5
  clear h
  go_enter Try.func11, Try.ntmps11
  go_wp2
  go_ret
  exact ⟨rfl, Keep.refl _ _⟩

set_option maxRecDepth 100000 in
set_option maxHeartbeats 4000000 in
theorem strials_good (A : Option Addr) (cA : Nat) (a : List Nat) (B : Option Addr) (cB : Nat) (b : List Nat) (n : Nat) (w : World) (hA : WordsAt w A a) (hB : WordsAt w B b) (a1 : 1 ≤ a.length) (a2 : a.length ≤ 32) (bb1 : 1 ≤ b.length) (bb2 : b.length ≤ 32) (hn : n ≤ 10) :
    Calls Try.prog 11 #[.slice A a.length cA, .slice B b.length cB, .int .i64 (n : Int)] w fun e w' => e = .returned (.bool true) ∧ Keep [] w w' := by
  have HAL := fun W => Lib.hid (alive_any9 W)
  obtain ⟨s0, i1, i2, hrun, hr0, hns, hnw, hop, hx1, hwear, hroom⟩ := start9 (l := a) hA.lt a1 a2
  have HST := Lib.hid (lstart_any A a.length cA w rfl hA.lt hA.rows a1 a2 i1 i2)
  obtain ⟨s1, s2, s3, e1, e2, e3, e4, e5, e6, e7, u1, u2, u3, z1, z2, z3, hh⟩ := snd_ok (b := b) hrun hr0 (fun t h1 h2 => hwear t (by rw [hns] at h1; exact h1) (by rw [hns] at h2; exact h2)) hB.lt bb1 (by rw [hroom]; exact bb2)
  have HT0 : Hid (TriAt s3 a b 0) := ⟨⟨u3, hh⟩, fun _ => z3, fun h => by omega⟩
  have hok0 := Lib.hid hrun.ok
  have hsg : stagedV s2 = .tuple #[.int .i64 (b.length : Int), .bool true] := by unfold stagedV; rw [if_pos e5, e6, e7]
  have HC1 : Hid (∀ bs wr g b1 b2 v, LawS bs w wr g b1 b2 v s0 → Calls Try.prog 48 #[.pointer (some ⟨v.gs, 0, none⟩)] wr fun e w' => e = .returned (.int .i64 0) ∧ LawS bs w w' g b1 b2 v s1) := fun bs wr g b1 b2 v h => by
    have := h.begin_any
    rw [e1] at this
    exact this
  have HC2 : Hid (∀ bs wr g b1 b2 v, LawS bs w wr g b1 b2 v s1 → Calls Try.prog 57 #[.pointer (some ⟨v.gs, 0, none⟩), .slice B b.length cB] wr fun e w' => e = .returned (.int .i64 0) ∧ LawS bs w w' g b1 b2 v s2) := fun bs wr g b1 b2 v h => by
    have := h.put_any cB hB (by omega)
    rw [e2] at this
    exact this
  have HC3 : Hid (∀ bs wr g b1 b2 v, LawS bs w wr g b1 b2 v s2 → Calls Try.prog 58 #[.pointer (some ⟨v.gs, 0, none⟩)] wr fun e w' => e = .returned (.tuple #[.int .i64 (b.length : Int), .bool true]) ∧ LawS bs w w' g b1 b2 v s2) := fun bs wr g b1 b2 v h => by
    have := h.staged_any
    rw [hsg] at this
    exact this
  have HC4 : Hid (∀ bs wr g b1 b2 v, LawS bs w wr g b1 b2 v s2 → Calls Try.prog 59 #[.pointer (some ⟨v.gs, 0, none⟩)] wr fun e w' => e = .returned (.int .i64 0) ∧ LawS bs w w' g b1 b2 v s3) := fun bs wr g b1 b2 v h => by
    have := h.commit_any
    rw [e3] at this
    exact this
  have HC5 : Hid (∀ bs wr g b1 b2 v, LawS bs w wr g b1 b2 v s3 → Calls Try.prog 59 #[.pointer (some ⟨v.gs, 0, none⟩)] wr fun e w' => e = .returned (.int .i64 80) ∧ LawS bs w w' g b1 b2 v s3) := fun bs wr g b1 b2 v h => by
    have := h.commit_any
    rw [e4] at this
    exact this
  have HRA : Hid (∀ bs wr g b1 b2 v s q u, LawS bs w wr g b1 b2 v s → Reads wr 1 q a.length (wordsV a) → Calls Try.prog 55 #[.slice q a.length u, .slice A a.length cA] wr fun e w' => e = .returned (.bool true) ∧ LawS bs w w' g b1 b2 v s) := fun bs wr g b1 b2 v s q u h hr => h.row_any u cA hA a2 hr
  have HRB : Hid (∀ bs wr g b1 b2 v s q u, LawS bs w wr g b1 b2 v s → Reads wr 1 q b.length (wordsV b) → Calls Try.prog 55 #[.slice q b.length u, .slice B b.length cB] wr fun e w' => e = .returned (.bool true) ∧ LawS bs w w' g b1 b2 v s) := fun bs wr g b1 b2 v s q u h hr => h.row_any u cB hB bb2 hr
  clear i1 i2 hrun hr0 hns hnw hop hx1 hwear hroom e1 e2 e3 e4 e5 e6 e7 u1 u2 u3 z1 z2 z3 hh hsg hA hB
  generalize hla : a.length = la at *
  generalize hlb : b.length = lb at *
  have HLA := Lib.hid hla
  have HLB := Lib.hid hlb
  clear hla hlb
  have q0 : decide ((la : Int) < 1) = false := decide_eq_false (by omega)
  have r0 : ((la : Int) < 1) = False := eq_false (by omega)
  have t0 : (la < 1) = False := eq_false (by omega)
  have q1 : decide ((32 : Int) < (la : Int)) = false := decide_eq_false (by omega)
  have r1 : ((32 : Int) < (la : Int)) = False := eq_false (by omega)
  have q2 : decide ((lb : Int) < 1) = false := decide_eq_false (by omega)
  have r2 : ((lb : Int) < 1) = False := eq_false (by omega)
  have t2 : (lb < 1) = False := eq_false (by omega)
  have q3 : decide ((32 : Int) < (lb : Int)) = false := decide_eq_false (by omega)
  have r3 : ((32 : Int) < (lb : Int)) = False := eq_false (by omega)
  have q4 : decide ((n : Int) < 0) = false := decide_eq_false (by omega)
  have r4 : ((n : Int) < 0) = False := eq_false (by omega)
  have q5 : decide ((10 : Int) < (n : Int)) = false := decide_eq_false (by omega)
  have r5 : ((10 : Int) < (n : Int)) = False := eq_false (by omega)
  go_enter Try.func11, Try.ntmps11
  go_upto_region 3 with fail
  clear q0 r0 t0 q1 r1 q2 r2 t2 q3 r3 q4 r4 q5 r5
  go_wp2_with fail
  refine HST.out.mono ?_
  rintro e w2 ⟨v, rfl, hs2, hlo2, k2⟩
  have HL0 : Hid (LawS w.heap.size w w2 v.g v.b1 v.b2 v s0) := ⟨hs2, hok0.out, ⟨rfl, rfl, rfl⟩, hlo2, Nat.le_refl _, k2⟩
  clear hs2 hlo2 k2 HST hok0
  generalize w.heap.size = bs at *
  generalize v.g = g at *
  generalize v.b1 = b1 at *
  generalize v.b2 = b2 at *
  have hc1 := HC1.out bs w2 g b1 b2 v HL0.out
  clear HC1 HL0
  go_upto_region 4 with fail
  go_upto_region 5 with (first
    | (go_at_call 48; refine hc1.mono ?_; rintro e w3 ⟨rfl, hl3⟩; have hc2 := HC2.out bs w3 g b1 b2 v hl3; clear hc1 hl3)
    | (go_at_call 57; refine hc2.mono ?_; rintro e w4 ⟨rfl, hl4⟩; have hc3 := HC3.out bs w4 g b1 b2 v hl4; clear hc2 hl4))
  refine hc3.mono ?_
  rintro e w5 ⟨rfl, hl5⟩
  have hc4 := HC4.out bs w5 g b1 b2 v hl5
  clear hl5 hc3 HC2 HC3 HC4
  go_upto_region 7 with fail
  go_wp2_with fail
  refine hc4.mono ?_
  rintro e w6 ⟨rfl, hl6⟩
  have hc5 := HC5.out bs w6 g b1 b2 v hl6
  clear hc4 hl6
  go_wp2_with fail
  refine hc5.mono ?_
  rintro e w7 ⟨rfl, hl7⟩
  have HL7 := Lib.hid hl7
  clear hc5 hl7
  go_upto_region 9 with fail
  clear HC5
  go_wp2_with fail
  go_loopw [11, 12] (fun v11 v12 wr => ∃ (i : Nat) (s : StS), i ≤ n ∧ v11 = .int .i64 (i : Int) ∧ LawS bs w wr g b1 b2 v s ∧ TriAt s a b i) (fun v11 _ _ => n - (intOf v11).toNat)
  case atStart => exact ⟨0, s3, Nat.zero_le _, rfl, HL7.out, HT0.out⟩
  case round =>
    obtain ⟨i, s, hi, rfl, hL, hT⟩ := hrel
    have HL := Lib.hid hL
    have HT := Lib.hid hT
    clear hL hT HL7 HT0
    by_cases hlt : i < n
    · have p1 : decide ((i : Int) < (n : Int)) = true := decide_eq_true (by omega)
      have p2 : (i < n) = True := eq_true hlt
      have hcy := HL.out.cycle_any HT.out.two.run.q.on
      go_upto_region 12 with fail
      clear p1 p2
      go_wp2_with fail
      refine hcy.mono ?_
      rintro e w8 ⟨rfl, hcy2⟩
      clear hcy
      go_upto_region 13 with fail
      go_wp2_with fail
      refine hcy2.mono ?_
      rintro e w9 ⟨rfl, hl9⟩
      have HL9 := Lib.hid hl9
      clear hcy2 hl9 HL
      have hst := HL9.out.start_any 1
      by_cases h3 : i < 3
      · obtain ⟨s', x1, x2, x3, x4⟩ := HT.out.next h3
        rw [x1] at hst
        have HT2 := Lib.hid x2
        have HX3 : Hid (∀ bs wr g b1 b2 v, LawS bs w wr g b1 b2 v s' → Calls Try.prog 44 #[.pointer (some ⟨v.gs, 0, none⟩)] wr fun e w' => e = .returned (.bool false) ∧ LawS bs w w' g b1 b2 v s') := fun bs wr g b1 b2 v h => by
          have := h.confirmed_any
          rw [x3] at this
          exact this
        have HX4 : Hid (∀ bs wr g b1 b2 v, LawS bs w wr g b1 b2 v s' → Calls Try.prog 48 #[.pointer (some ⟨v.gs, 0, none⟩)] wr fun e w' => e = .returned (.int .i64 80) ∧ LawS bs w w' g b1 b2 v s') := fun bs wr g b1 b2 v h => by
          have := h.begin_any
          rw [x4] at this
          exact this
        have p1 : decide ((i : Int) < 3) = true := decide_eq_true (by omega)
        have p2 : ((i : Int) < 3) = True := eq_true (by omega)
        have p3 : (i < 3) = True := eq_true (by omega)
        have p4 : decide ((3 : Int) ≤ (i : Int)) = false := decide_eq_false (by omega)
        have p5 : ((3 : Int) ≤ (i : Int)) = False := eq_false (by omega)
        have p6 : (3 ≤ i) = False := eq_false (by omega)
        clear x1 x2 x3 x4 HT h3
        go_upto_region 14 with fail
        go_wp2_with fail
        refine hst.mono ?_
        rintro e w10 ⟨rfl, hl10⟩
        have hcf := HX3.out bs w10 g b1 b2 v hl10
        clear hst hl10 HX3 HL9
        go_upto_region 15 with fail
        go_wp2_with (first
          | (go_at_call 44; refine hcf.mono ?_; rintro e w11 ⟨rfl, hl11⟩; have hbg := HX4.out bs w11 g b1 b2 v hl11; clear hcf hl11 HX4)
          | (go_at_call 48; refine hbg.mono ?_; rintro e w12 ⟨rfl, hl12⟩; have HL12 := Lib.hid hl12; clear hbg hl12))
        clear p1 p2 p3 p4 p5 p6
        go_roundw
        case rel => exact ⟨i + 1, s', by omega, by go_num, HL12.out, HT2.out⟩
        case measure => simp [intOf] <;> omega
      · obtain ⟨x1, x2⟩ := HT.out.spent (by omega)
        rw [x1] at hst
        have HT2 := Lib.hid x2
        have p1 : decide ((i : Int) < 3) = false := decide_eq_false (by omega)
        have p2 : ((i : Int) < 3) = False := eq_false (by omega)
        have p3 : (i < 3) = False := eq_false (by omega)
        have p4 : decide ((3 : Int) ≤ (i : Int)) = true := decide_eq_true (by omega)
        have p5 : ((3 : Int) ≤ (i : Int)) = True := eq_true (by omega)
        have p6 : (3 ≤ i) = True := eq_true (by omega)
        clear x1 x2 HT h3
        go_upto_region 14 with fail
        go_wp2_with fail
        refine hst.mono ?_
        rintro e w10 ⟨rfl, hl10⟩
        have HL10 := Lib.hid hl10
        clear hst hl10 HL9
        go_wp2_with fail
        clear p1 p2 p3 p4 p5 p6
        go_roundw
        case rel => exact ⟨i + 1, s, by omega, by go_num, HL10.out, HT2.out⟩
        case measure => simp [intOf] <;> omega
    · obtain rfl : i = n := by omega
      have p1 : decide ((i : Int) < (i : Int)) = false := decide_eq_false (by omega)
      clear hlt
      go_upto_region 17 with fail
      clear p1
      by_cases h3 : 3 ≤ i
      · have hcs := HT.out.two.cands
        rw [show min i 3 = 3 by omega, if_pos ⟨rfl, Nat.le_refl _⟩] at hcs
        have hli := HL.out.list_head hcs
        have p4 : decide ((3 : Int) ≤ (i : Int)) = true := decide_eq_true (by omega)
        have p5 : ((3 : Int) ≤ (i : Int)) = True := eq_true (by omega)
        have p6 : (3 ≤ i) = True := eq_true (by omega)
        clear hcs HT HL hi hn
        rw [show (⟨0, 1, false, a⟩ : Cnd).words = a from rfl, HLA.out] at hli
        go_wp2_with fail
        refine hli.mono ?_
        rintro e w13 ⟨bq, oq, cp, q, u, rfl, f0, f3, hr, hl13⟩
        have hrw := HRA.out bs w13 g b1 b2 v s q u hl13 hr
        have f0' : w13.cell? ⟨bq, oq, none⟩ = some (.int .i64 0) := f0
        clear hli hl13 hr f0
        go_upto_region 19 with fail
        go_wp2_with (first
          | (go_at_call 55; refine hrw.mono ?_; rintro e w14 ⟨rfl, hl14⟩; have HL14 := Lib.hid hl14; clear hrw hl14)
          | (go_at_call 42; refine (HAL _).out.mono ?_; rintro e w15 ⟨rfl, k15⟩))
        go_ret
        exact ⟨rfl, HL14.out.keep.then k15⟩
      · have hcs := HT.out.two.cands
        rw [show min i 3 = i by omega, if_neg (fun h => h3 h.2)] at hcs
        have hli := HL.out.list_head hcs
        obtain ⟨s4, x1, x2, x3⟩ := (show Two s a b false i by have := HT.out.two; rw [show min i 3 = i by omega] at this; exact this).start (by omega)
        obtain ⟨s5, y1, y2, y3⟩ := x2.confirm x3
        obtain ⟨y4, y5⟩ := y2.confirmed y3
        have y6 := y2.cands
        rw [if_neg (by simp)] at y6
        obtain ⟨y7, _⟩ := y2.trial y3
        have HD1 : Hid (∀ bs wr g b1 b2 v, LawS bs w wr g b1 b2 v s → Calls Try.prog 46 #[.pointer (some ⟨v.gs, 0, none⟩), .int .i64 1] wr fun e w' => e = .returned (.int .i64 0) ∧ LawS bs w w' g b1 b2 v s4) := fun bs wr g b1 b2 v h => by
          have := h.start_any 1
          rw [x1] at this
          exact this
        have HD2 : Hid (∀ bs wr g b1 b2 v, LawS bs w wr g b1 b2 v s4 → Calls Try.prog 47 #[.pointer (some ⟨v.gs, 0, none⟩)] wr fun e w' => e = .returned (.int .i64 0) ∧ LawS bs w w' g b1 b2 v s5) := fun bs wr g b1 b2 v h => by
          have := h.confirm_any
          rw [y1] at this
          exact this
        have HD3 : Hid (∀ bs wr g b1 b2 v, LawS bs w wr g b1 b2 v s5 → Calls Try.prog 47 #[.pointer (some ⟨v.gs, 0, none⟩)] wr fun e w' => e = .returned (.int .i64 80) ∧ LawS bs w w' g b1 b2 v s5) := fun bs wr g b1 b2 v h => by
          have := h.confirm_any
          rw [y4] at this
          exact this
        have HD4 : Hid (∀ bs wr g b1 b2 v, LawS bs w wr g b1 b2 v s5 → Calls Try.prog 43 #[.pointer (some ⟨v.gs, 0, none⟩)] wr fun e w' => e = .returned (.tuple #[.int .i64 1, .bool true]) ∧ LawS bs w w' g b1 b2 v s5) := fun bs wr g b1 b2 v h => by
          have := h.runs_any
          rw [y3] at this
          exact this
        have HD5 : Hid (∀ bs wr g b1 b2 v, LawS bs w wr g b1 b2 v s5 → Calls Try.prog 46 #[.pointer (some ⟨v.gs, 0, none⟩), .int .i64 1] wr fun e w' => e = .returned (.int .i64 0) ∧ LawS bs w w' g b1 b2 v s5) := fun bs wr g b1 b2 v h => by
          have := h.start_any 1
          rw [y5] at this
          exact this
        have HD6 : Hid (∀ bs wr g b1 b2 v, LawS bs w wr g b1 b2 v s5 → Calls Try.prog 44 #[.pointer (some ⟨v.gs, 0, none⟩)] wr fun e w' => e = .returned (.bool true) ∧ LawS bs w w' g b1 b2 v s5) := fun bs wr g b1 b2 v h => by
          have := h.confirmed_any
          rw [y7] at this
          exact this
        have HD7 := Lib.hid (fun bs wr g b1 b2 v (h : LawS bs w wr g b1 b2 v s5) => h.list_head y6)
        have p4 : decide ((3 : Int) ≤ (i : Int)) = false := decide_eq_false (by omega)
        have p5 : ((3 : Int) ≤ (i : Int)) = False := eq_false (by omega)
        have p6 : (3 ≤ i) = False := eq_false (by omega)
        clear hcs HT HL hi hn h3 x1 x2 x3 y1 y2 y3 y4 y5 y6 y7
        rw [show (⟨1, 2, !false, b⟩ : Cnd).words = b from rfl, HLB.out] at hli
        go_wp2_with fail
        refine hli.mono ?_
        rintro e w13 ⟨bq, oq, cp, q, u, rfl, f0, f3, hr, hl13⟩
        have hrw := HRB.out bs w13 g b1 b2 v s q u hl13 hr
        have f0' : w13.cell? ⟨bq, oq, none⟩ = some (.int .i64 1) := f0
        clear hli hl13 hr f0
        go_upto_region 20 with fail
        clear p4 p5 p6
        go_upto_region 22 with (first
          | (go_at_call 55; refine hrw.mono ?_; rintro e w14 ⟨rfl, hl14⟩; have hs1 := HD1.out bs w14 g b1 b2 v hl14; clear hrw hl14)
          | (go_at_call 46; refine hs1.mono ?_; rintro e w15 ⟨rfl, hl15⟩; have hs2 := HD2.out bs w15 g b1 b2 v hl15; clear hs1 hl15)
          | (go_at_call 47; refine hs2.mono ?_; rintro e w16 ⟨rfl, hl16⟩; have hs3 := HD3.out bs w16 g b1 b2 v hl16; clear hs2 hl16)
          | (go_at_call 47; refine hs3.mono ?_; rintro e w17 ⟨rfl, hl17⟩; have hs4 := HD4.out bs w17 g b1 b2 v hl17; clear hs3 hl17))
        clear f0' f3 HD1 HD2 HD3 HD4
        go_wp2_with (go_at_call 43; refine hs4.mono ?_; rintro e w18 ⟨rfl, hl18⟩)
        have HL18 := Lib.hid hl18
        clear hs4 hl18
        go_loopw [16] (fun v16 wr => ∃ (j : Nat), j ≤ 5 ∧ v16 = .int .i64 (j : Int) ∧ LawS bs w wr g b1 b2 v s5) (fun v16 _ => 5 - (intOf v16).toNat)
        case atStart => exact ⟨0, by omega, rfl, HL18.out⟩
        case round =>
          obtain ⟨j, hj, rfl, hL⟩ := hrel
          have HL := Lib.hid hL
          clear hL HL18
          by_cases hlt : j < 5
          · have p1 : decide ((j : Int) < 5) = true := decide_eq_true (by omega)
            have p2 : ((j : Int) < 5) = True := eq_true (by omega)
            have p3 : (j < 5) = True := eq_true hlt
            have hst := HD5.out bs _ g b1 b2 v HL.out
            go_upto_region 26 with fail
            clear p1 p2 p3
            go_wp2_with fail
            refine hst.mono ?_
            rintro e w19 ⟨rfl, hl19⟩
            have HL19 := Lib.hid hl19
            clear hst hl19 HL
            go_wp2_with fail
            go_roundw
            case rel => exact ⟨j + 1, by omega, by go_num, HL19.out⟩
            case measure => simp [intOf] <;> omega
          · obtain rfl : j = 5 := by omega
            clear hlt
            have hcf := HD6.out bs _ g b1 b2 v HL.out
            go_upto_region 28 with fail
            go_wp2_with (first
              | (go_at_call 44; refine hcf.mono ?_; rintro e w20 ⟨rfl, hl20⟩; have hli := HD7.out bs w20 g b1 b2 v hl20; clear hcf hl20)
              | (go_at_call 45; refine hli.mono ?_; rintro e w21 ⟨bq, oq, cp, q, u, rfl, f0, f3, hr, hl21⟩; have HL21 := Lib.hid hl21; clear hli hl21 hr f3; replace f0 : w21.cell? ⟨bq, oq, none⟩ = some (.int .i64 1) := f0)
              | (go_at_call 42; refine (HAL _).out.mono ?_; rintro e w22 ⟨rfl, k22⟩))
            go_ret
            exact ⟨rfl, HL21.out.keep.then k22⟩


theorem strials_any (A : Option Addr) (cA : Nat) (a : List Nat) (B : Option Addr) (cB : Nat) (b : List Nat) (n : Int) (w : World) (hA : WordsAt w A a) (hB : WordsAt w B b) :
    Calls Try.prog 11 #[.slice A a.length cA, .slice B b.length cB, .int .i64 n] w fun e w' => e = .returned (.bool true) ∧ Keep [] w w' := by
  by_cases h : a.length < 1 ∨ 32 < a.length ∨ b.length < 1 ∨ 32 < b.length ∨ n < 0 ∨ 10 < n
  · exact strials_bad A cA a B cB b n w hA.len hB.len h
  · obtain ⟨m, rfl⟩ : ∃ k : Nat, n = (k : Int) := ⟨n.toNat, by omega⟩
    exact strials_good A cA a B cB b m w hA hB (by omega) (by omega) (by omega) (by omega) (by omega)
end Go.Proofs.Yteanpgkonhdbpaa
