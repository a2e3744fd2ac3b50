/- StoreFits, walked: of which devices there may be a store. No condition. -/
import Derived.Test.YteanpgkonhdbpaaSrU
namespace Go.Proofs.Yteanpgkonhdbpaa
open Go.RowKit

theorem fresh_none {d : Dev} {b : BkS} (ho : d.Ok) (hk : BkOk d b) (hw : ∀ k, k < 2 * d.nw → atB d (b.base * d.nw + k) = 4294967295) : imageB d b = none := by
  have hs : b.base + 1 < d.ns := hk.in_ (by omega) (by have := hk.three; omega)
  have hnw := hk.words
  have a2 : (b.base + 1) * d.nw = b.base * d.nw + d.nw := by rw [Nat.add_mul, Nat.one_mul]
  have at_ : ∀ k, k < d.nw → atH (secB d b 1) k = 4294967295 := fun k hk => by
    have := atH_at ho hs hk
    rw [a2, Nat.add_assoc, hw _ (by omega)] at this
    exact this
  have hv : validH (secB d b 1) = false := by
    have : twoH (secB d b 1) 0 = false := by
      unfold twoH
      rw [at_ 0 (by omega), at_ (0 + 1) (by omega)]
      decide
    unfold validH
    rw [this]
    rfl
  have hst : (stateB d b).valid = false := by
    unfold stateB
    split
    · rfl
    · exact hv
  unfold imageB
  rw [if_neg (by rw [hst]; simp)]
theorem fresh_cands {s n : Nat} (h6 : 6 ≤ s) (h2 : s ≤ 64) (h13 : 13 ≤ n) (h4 : n ≤ 1024) : candS (newSr (newD s n 1)) 0 = none ∧ candS (newSr (newD s n 1)) 1 = none := by
  have hf := newD_fr h6 h2 h13 h4 (l := 1) (by decide) (by decide)
  have ho := newSr_ok hf.q.ok h6 h13
  have hb : ∀ j, j < s * n → atB (newD s n 1) j = 4294967295 := fun j hj => by
    show (List.replicate (s * n) 4294967295).getD j 0 = _
    rw [List.getD_eq_getElem?_getD, List.getElem?_replicate, if_pos hj]
    rfl
  have hk : ∀ i, i < 2 → candS (newSr (newD s n 1)) i = none := fun i hi => by
    have hk := ho.bk hi
    have h := fresh_none ho.ok hk (fun k hk2 => hb _ (by
      have h3 := hk.three
      have h4 : ((newSr (newD s n 1)).bk i).base + ((newSr (newD s n 1)).bk i).many ≤ s := hk.fits
      have h5 : k < 2 * n := hk2
      show ((newSr (newD s n 1)).bk i).base * n + k < s * n
      have := Nat.mul_le_mul_right n (show ((newSr (newD s n 1)).bk i).base + 2 ≤ s by omega)
      rw [Nat.add_mul] at this
      omega))
    unfold candS
    rw [h]
  exact ⟨hk 0 (by decide), hk 1 (by decide)⟩
/-- What the calls of a fresh store answer. -/
theorem fresh_calls {s n : Nat} (h6 : 6 ≤ s) (h2 : s ≤ 64) (h13 : 13 ≤ n) (h4 : n ≤ 1024) : candsS (newSr (newD s n 1)) = [] ∧ confS (newSr (newD s n 1)) = false ∧ startSr (newSr (newD s n 1)) 0 = (newSr (newD s n 1), 80) ∧ confirmSr (newSr (newD s n 1)) = (newSr (newD s n 1), 80) ∧ beginSr (newSr (newD s n 1)) = (newSr (newD s n 1), 80) := by
  obtain ⟨c0, c1⟩ := fresh_cands h6 h2 h13 h4
  have hcf : confS (newSr (newD s n 1)) = false := rfl
  refine ⟨?_, hcf, ?_, rfl, ?_⟩
  · unfold candsS
    rw [c0, c1]
  · unfold startSr
    rw [if_neg (by omega), if_neg (by show ¬ true = false; simp), show (0 : Int).toNat = 0 from rfl, c0]
  · have : othE (newSr (newD s n 1)) = 80 := rfl
    unfold beginSr
    rw [this]
    rfl
theorem fresh_inst {s n : Nat} (h6 : 6 ≤ s) (h2 : s ≤ 64) (h13 : 13 ≤ n) (h4 : n ≤ 1024) {l : List Nat} (hl : ∀ y ∈ l, y < 4294967296) :
    (installSr (newSr (newD s n 1)) l).2 = if (s / 2 - 2) * n < l.length ∨ 4096 < l.length then 81 else if l.length = 0 then 80 else 0 := by
  have hf := newD_fr h6 h2 h13 h4 (l := 1) (by decide) (by decide)
  have hr : roomB (newD s n 1) (newB 0 ((newD s n 1).ns / 2)) = min ((s / 2 - 2) * n) 4096 := rfl
  split
  · exact inst_full hf (by rw [hr]; omega)
  · split
    · rename_i h0
      obtain rfl := List.length_eq_zero_iff.1 h0
      exact inst_none hf
    · obtain ⟨s', e, _⟩ := inst_ok hf hl (by omega) (by rw [hr]; omega)
      rw [e]

set_option maxRecDepth 100000 in
set_option maxHeartbeats 2000000 in
theorem sfits_bad (s n : Int) (A : Option Addr) (m c : Nat) (w : World) (hm : m ≤ maxLen) (h : s < 1 ∨ n < 1 ∨ 64 < s ∨ 1024 < n ∨ 5000 < s * n ∨ 5000 < m) :
    Calls Try.prog 8 #[.int .i64 s, .int .i64 n, .slice A m c] w fun e w' => e = .returned (.bool true) ∧ Keep [] w w' := by
  by_cases g1 : s < 1
  · have q1 := decide_eq_true g1
    have r1 := eq_true g1
    clear h
    go_enter Try.func8, Try.ntmps8
    go_wp2
    go_ret
    exact ⟨rfl, Keep.refl _ _⟩
  have q1 := decide_eq_false g1
  have r1 := eq_false g1
  by_cases g2 : n < 1
  · have q2 := decide_eq_true g2
    have r2 := eq_true g2
    clear h
    go_enter Try.func8, Try.ntmps8
    go_wp2
    go_ret
    exact ⟨rfl, Keep.refl _ _⟩
  have q2 := decide_eq_false g2
  have r2 := eq_false g2
  by_cases g3 : 64 < s
  · have q3 := decide_eq_true g3
    have r3 := eq_true g3
    clear h
    go_enter Try.func8, Try.ntmps8
    go_wp2
    go_ret
    exact ⟨rfl, Keep.refl _ _⟩
  have q3 := decide_eq_false g3
  have r3 := eq_false g3
  by_cases g4 : 1024 < n
  · have q4 := decide_eq_true g4
    have r4 := eq_true g4
    clear h
    go_enter Try.func8, Try.ntmps8
    go_wp2
    go_ret
    exact ⟨rfl, Keep.refl _ _⟩
  have q4 := decide_eq_false g4
  have r4 := eq_false g4
  obtain ⟨s', rfl⟩ : ∃ k : Nat, s = (k : Int) := ⟨s.toNat, by omega⟩
  obtain ⟨n', rfl⟩ : ∃ k : Nat, n = (k : Int) := ⟨n.toNat, by omega⟩
  have hsn : s' * n' ≤ 65536 := Nat.le_trans (Nat.mul_le_mul (show s' ≤ 64 by omega) (show n' ≤ 1024 by omega)) (by decide)
  have hmul : (s' : Int) * (n' : Int) = ((s' * n' : Nat) : Int) := by rw [Int.natCast_mul]
  have hw : IntKind.i64.wrap ((s' : Int) * (n' : Int)) = ((s' * n' : Nat) : Int) := by rw [hmul]; exact IntWalk.i64_in _ (by omega)
  rw [hmul] at h
  clear hmul
  generalize s' * n' = sn at *
  by_cases g5 : 5000 < (sn : Int)
  · have q5 := decide_eq_true g5
    have r5 := eq_true g5
    clear h
    go_enter Try.func8, Try.ntmps8
    go_wp2
    go_ret
    exact ⟨rfl, Keep.refl _ _⟩
  have q5 := decide_eq_false g5
  have r5 := eq_false g5
  have g6 : (5000 : Int) < (m : Int) := by omega
  have q6 := decide_eq_true g6
  have r6 := eq_true g6
  clear h
  go_enter Try.func8, Try.ntmps8
  go_wp2
  go_ret
  exact ⟨rfl, Keep.refl _ _⟩
set_option maxRecDepth 100000 in
set_option maxHeartbeats 4000000 in
theorem sfits_good (s n : Nat) (A : Option Addr) (m c : Nat) (l : List Nat) (w : World) (hl : l.length = m) (h32 : ∀ y ∈ l, y < 4294967296) (hr : Reads w 1 A m (wordsV l)) (h1 : 1 ≤ s) (h2 : s ≤ 64) (h3 : 1 ≤ n) (h4 : n ≤ 1024) (h5 : s * n ≤ 5000) (h6 : m ≤ 5000) :
    Calls Try.prog 8 #[.int .i64 (s : Int), .int .i64 (n : Int), .slice A m c] w fun e w' => e = .returned (.bool true) ∧ Keep [] w w' := by
  have HN : Hid (∀ W, Calls Try.prog 12 #[.int .i64 s, .int .i64 n, .int .i64 1] W (RetNew W (newD s n 1))) := fun W => fnew_yes s n 1 W h1 h2 h3 h4 (by decide)
  have HO : Hid ((newD s n 1).Ok) := newD_ok s n 1 h1 h2 h3 h4 (by decide)
  have HAL := fun W => Lib.hid (alive_any9 W)
  have HNL := fun W => Lib.hid (snew_nil W)
  have q1 : decide ((s : Int) < 1) = false := decide_eq_false (by omega)
  have r1 : ((s : Int) < 1) = False := eq_false (by omega)
  have q2 : decide ((n : Int) < 1) = false := decide_eq_false (by omega)
  have r2 : ((n : Int) < 1) = False := eq_false (by omega)
  have q3 : decide ((64 : Int) < (s : Int)) = false := decide_eq_false (by omega)
  have r3 : (64 < s) = False := eq_false (by omega)
  have q4 : decide ((1024 : Int) < (n : Int)) = false := decide_eq_false (by omega)
  have r4 : (1024 < n) = False := eq_false (by omega)
  have hmul : (s : Int) * (n : Int) = ((s * n : Nat) : Int) := by rw [Int.natCast_mul]
  have hw : IntKind.i64.wrap ((s : Int) * (n : Int)) = ((s * n : Nat) : Int) := by rw [hmul]; exact IntWalk.i64_in _ (by omega)
  clear hmul
  have q5 : decide ((5000 : Int) < ((s * n : Nat) : Int)) = false := decide_eq_false (by omega)
  have r5 : ((5000 : Int) < ((s * n : Nat) : Int)) = False := eq_false (by omega)
  have r5' : (5000 < s * n) = False := eq_false (by omega)
  have q6 : decide ((5000 : Int) < (m : Int)) = false := decide_eq_false (by omega)
  have r6 : (5000 < m) = False := eq_false (by omega)
  go_enter Try.func8, Try.ntmps8
  go_upto_region 3 with fail
  clear q1 q2 q3 q4 q5 q6 r1 r2 r3 r4 r5 r5' r6 hw
  go_wp2_with fail
  refine (HN.out _).mono ?_
  rintro e w1 ⟨g, b1, b2, rfl, l1, l2, l3, hd1, k1⟩
  have HK1 := Lib.hid k1
  have HD1 := Lib.hid hd1
  clear k1 hd1 HN
  by_cases hsm : s < 6 ∨ n < 13
  · have HNO := Lib.hid (snew_no g b1 b2 (newD s n 1) w1 HD1.out HO.out hsm)
    by_cases p1 : s < 6
    · have t1 : decide ((s : Int) < 6) = true := decide_eq_true (by omega)
      have u1 := eq_true p1
      go_wp2_with fail
      refine HNO.out.mono ?_
      rintro e w2 ⟨rfl, k2⟩
      have HK2 := Lib.hid (HK1.out.then k2)
      clear k2 HNO HD1
      go_wp2_with fail
      refine (HNL _).out.mono ?_
      rintro e w3 ⟨rfl, rfl⟩
      go_wp2_with fail
      refine (HAL _).out.mono ?_
      rintro e w3 ⟨rfl, k3⟩
      go_wp2
      go_ret
      exact ⟨rfl, HK2.out.then k3⟩
    · have t1 : decide ((s : Int) < 6) = false := decide_eq_false (by omega)
      have u1 := eq_false p1
      have p2 : n < 13 := by omega
      have t2 : decide ((n : Int) < 13) = true := decide_eq_true (by omega)
      have u2 := eq_true p2
      clear hsm
      go_wp2_with fail
      refine HNO.out.mono ?_
      rintro e w2 ⟨rfl, k2⟩
      have HK2 := Lib.hid (HK1.out.then k2)
      clear k2 HNO HD1
      go_wp2_with fail
      refine (HNL _).out.mono ?_
      rintro e w3 ⟨rfl, rfl⟩
      go_wp2_with fail
      refine (HAL _).out.mono ?_
      rintro e w3 ⟨rfl, k3⟩
      go_wp2
      go_ret
      exact ⟨rfl, HK2.out.then k3⟩
  · have p6 : 6 ≤ s := by omega
    have p13 : 13 ≤ n := by omega
    have HYS : Hid (Calls Try.prog 41 #[.pointer (some ⟨g, 0, none⟩)] w1 (fun e w' => ∃ gs gb0 gb1, e = .returned (.tuple #[.pointer (some ⟨gs, 0, none⟩), .int .i64 0]) ∧ (w1.heap.size ≤ gs ∧ w1.heap.size ≤ gb0 ∧ w1.heap.size ≤ gb1) ∧ SrAt w' ⟨gs, g, gb0, gb1, b1, b2⟩ (newSr (newD s n 1)) ∧ Keep [] w1 w')) := snew_yes g b1 b2 (newD s n 1) w1 HD1.out HO.out p6 p13
    have t1 : decide ((s : Int) < 6) = false := decide_eq_false (by omega)
    have u1 : (s < 6) = False := eq_false (by omega)
    have t2 : decide ((n : Int) < 13) = false := decide_eq_false (by omega)
    have u2 : (n < 13) = False := eq_false (by omega)
    obtain ⟨x1, x2, x3, x4, x5⟩ := fresh_calls p6 h2 p13 h4
    have x6 := fresh_inst p6 h2 p13 h4 h32
    have hso := newSr_ok HO.out p6 p13
    have HRN : Hid (∀ v W, SrAt W v (newSr (newD s n 1)) → Calls Try.prog 43 #[.pointer (some ⟨v.gs, 0, none⟩)] W fun e w' => e = .returned (.tuple #[.int .i64 0, .bool false]) ∧ Keep [] W w') := fun v W h => sruns_any v (newSr (newD s n 1)) W h
    have HCF : Hid (∀ v W, SrAt W v (newSr (newD s n 1)) → Calls Try.prog 44 #[.pointer (some ⟨v.gs, 0, none⟩)] W fun e w' => e = .returned (.bool false) ∧ Keep [] W w') := fun v W h => by
      have := sconfirmed_any v (newSr (newD s n 1)) W h hso
      rw [x2] at this
      exact this
    have HLI : Hid (∀ v W, SrAt W v (newSr (newD s n 1)) → Calls Try.prog 45 #[.pointer (some ⟨v.gs, 0, none⟩)] W (RetList W [])) := fun v W h => by
      have := slist_any v (newSr (newD s n 1)) W h hso (by rw [x1]; decide)
      rw [x1] at this
      exact this
    have HST : Hid (∀ v W, SrAt W v (newSr (newD s n 1)) → Calls Try.prog 46 #[.pointer (some ⟨v.gs, 0, none⟩), .int .i64 0] W (RetSr W v (newSr (newD s n 1)) 80)) := fun v W h => by
      have := sstart_any v (newSr (newD s n 1)) W 0 h hso
      rw [x3] at this
      exact this
    have HCM : Hid (∀ v W, SrAt W v (newSr (newD s n 1)) → Calls Try.prog 47 #[.pointer (some ⟨v.gs, 0, none⟩)] W (RetSr W v (newSr (newD s n 1)) 80)) := fun v W h => by
      have := sconfirm_any v (newSr (newD s n 1)) W h hso
      rw [x4] at this
      exact this
    have HBG : Hid (∀ v W, SrAt W v (newSr (newD s n 1)) → Calls Try.prog 48 #[.pointer (some ⟨v.gs, 0, none⟩)] W (RetSr W v (newSr (newD s n 1)) 80)) := fun v W h => by
      have := sbegin_any v (newSr (newD s n 1)) W h hso
      rw [x5] at this
      exact this
    have HIN : Hid (∀ v W, SrAt W v (newSr (newD s n 1)) → Reads W 1 A m (wordsV l) → (0 < m → Off v.all A) → Calls Try.prog 49 #[.pointer (some ⟨v.gs, 0, none⟩), .slice A m c] W (RetSr W v (installSr (newSr (newD s n 1)) l).1 (installSr (newSr (newD s n 1)) l).2)) := fun v W h hr ho =>
      sinstall_any v (newSr (newD s n 1)) W A m c l h hso hl h32 hr ho (by omega)
    rw [hl] at x6
    rw [x6] at HIN
    have hrm : (s / 2 - 2) * n ≤ 65536 := Nat.le_trans (Nat.mul_le_mul (show s / 2 - 2 ≤ 64 by omega) h4) (by decide)
    have hmul : ((s : Int) / 2 - 2) * (n : Int) = (((s / 2 - 2) * n : Nat) : Int) := by
      rw [Int.natCast_mul]
      congr 1
      omega
    have hw2 : wrap64 (((s : Int) / 2 - 2) * (n : Int)) = (((s / 2 - 2) * n : Nat) : Int) := by
      rw [hmul]
      clear hmul
      generalize (s / 2 - 2) * n = z at *
      unfold wrap64
      omega
    have HW2 := Lib.hid hw2
    clear hmul x1 x2 x3 x4 x5 x6 hso hw2 hsm
    generalize newSr (newD s n 1) = s0 at *
    go_wp2_with fail
    refine HYS.out.mono ?_
    rintro e w2 ⟨gs, gb0, gb1, rfl, ⟨y1, y2, y3⟩, hs2, k2⟩
    have HK2 := Lib.hid (HK1.out.then k2)
    have HS2 := Lib.hid hs2
    have HLO : Hid (∀ y ∈ (⟨gs, g, gb0, gb1, b1, b2⟩ : StW).all, w.heap.size ≤ y) := fun y hy => by
      have hz := HK1.out.size
      unfold StW.all at hy
      simp only [List.mem_cons, List.not_mem_nil, or_false] at hy
      omega
    have HOF : Hid (0 < m → Off (⟨gs, g, gb0, gb1, b1, b2⟩ : StW).all A) := fun h0 ad ha hm => by
      obtain ⟨b, o, e, hb, _⟩ := hr.addr h0
      rw [e] at ha
      cases ha
      have := HLO.out _ hm
      dsimp only at this
      omega
    have HR := Lib.hid hr
    clear k2 hs2 HYS HD1 HK1 hr l1 l2 l3 y1 y2 y3
    have HRNa := HRN.out ⟨gs, g, gb0, gb1, b1, b2⟩
    dsimp only at HRNa
    have HRNb := Lib.hid HRNa
    clear HRN HRNa
    have HCFa := HCF.out ⟨gs, g, gb0, gb1, b1, b2⟩
    dsimp only at HCFa
    have HCFb := Lib.hid HCFa
    clear HCF HCFa
    have HLIa := HLI.out ⟨gs, g, gb0, gb1, b1, b2⟩
    dsimp only at HLIa
    have HLIb := Lib.hid HLIa
    clear HLI HLIa
    have HSTa := HST.out ⟨gs, g, gb0, gb1, b1, b2⟩
    dsimp only at HSTa
    have HSTb := Lib.hid HSTa
    clear HST HSTa
    have HCMa := HCM.out ⟨gs, g, gb0, gb1, b1, b2⟩
    dsimp only at HCMa
    have HCMb := Lib.hid HCMa
    clear HCM HCMa
    have HBGa := HBG.out ⟨gs, g, gb0, gb1, b1, b2⟩
    dsimp only at HBGa
    have HBGb := Lib.hid HBGa
    clear HBG HBGa
    have HINa := HIN.out ⟨gs, g, gb0, gb1, b1, b2⟩
    dsimp only at HINa
    have HINb := Lib.hid HINa
    clear HIN HINa
    go_wp2_with fail
    refine (HNL _).out.mono ?_
    rintro e w3 ⟨rfl, rfl⟩
    go_wp2_with fail
    refine (HRNb.out w2 HS2.out).mono ?_
    rintro e w4 ⟨rfl, k4⟩
    have HK4 := Lib.hid (HK2.out.then k4)
    have HS4 := Lib.hid (HS2.out.keep0 k4)
    clear k4 HK2 HS2 HRNb
    have hw2 := HW2.out
    generalize (s / 2 - 2) * n = rm at *
    by_cases hm0 : m = 0
    · subst hm0
      have p1 : decide ((rm : Int) < ((0 : Nat) : Int)) = false := decide_eq_false (by omega)
      have p2 : ((rm : Int) < ((0 : Nat) : Int)) = False := eq_false (by omega)
      have HIN3 := HINb.out
      rw [if_neg (by omega), if_pos rfl] at HIN3
      have HIN3 := Lib.hid HIN3
      clear HINb
      go_upto_region 19 with fail
      go_wp2_with (first
        | (refine (HCFb.out _ HS4.out).mono ?_; rintro e w5 ⟨rfl, k5⟩; have HK5 := Lib.hid (HK4.out.then k5); have HS5 := Lib.hid (HS4.out.keep0 k5); clear k5 HS4 HCFb)
        | (refine (HLIb.out _ HS5.out).mono ?_; intro e w6 hret; obtain ⟨A6, c6, ps6, hp6, rfl, _, _, k6⟩ := hret.opened; have HK6 := Lib.hid (HK5.out.then k6); have HS6 := Lib.hid (HS5.out.keep0 k6); clear k6 HS5 HLIb hret hp6 HK5)
        | (refine (HSTb.out _ HS6.out).mono ?_; rintro e w7 ⟨rfl, hs7, k7⟩; have HK7 : Hid (Keep [] w w7) := HK6.out.trans k7 (fun y hy h => by have := HLO.out y hy; omega); have HS7 := Lib.hid hs7; clear k7 hs7 HS6 HSTb)
        | (refine (HCMb.out _ HS7.out).mono ?_; rintro e w8 ⟨rfl, hs8, k8⟩; have HK8 : Hid (Keep [] w w8) := HK7.out.trans k8 (fun y hy h => by have := HLO.out y hy; omega); have HS8 := Lib.hid hs8; clear k8 hs8 HS7 HCMb HK7 HK6)
        | (refine (HBGb.out _ HS8.out).mono ?_; rintro e w9 ⟨rfl, hs9, k9⟩; have HK9 : Hid (Keep [] w w9) := HK8.out.trans k9 (fun y hy h => by have := HLO.out y hy; omega); have hin9 := HIN3.out w9 hs9 (HR.out.keep0 HK9.out) HOF.out; clear k9 hs9 HS8 HBGb HIN3 HK8)
        | (refine hin9.mono ?_; rintro e w10 ⟨rfl, hs10, k10⟩; have HK10 : Hid (Keep [] w w10) := HK9.out.trans k10 (fun y hy h => by have := HLO.out y hy; omega); clear k10 hs10 hin9 HK9)
        | (refine (HAL _).out.mono ?_; rintro e w11 ⟨rfl, k11⟩))
      go_ret
      exact ⟨rfl, HK10.out.then k11⟩
    · have p0 : decide (((m : Int)) = 0) = false := decide_eq_false (by omega)
      have p0' : ((m : Int) == 0) = false := beq_eq_false_iff_ne.2 (by omega)
      have p0'' : (m = 0) = False := eq_false hm0
      by_cases hm1 : rm < m
      · have p1 : decide ((rm : Int) < (m : Int)) = true := decide_eq_true (by omega)
        have p2 : (rm < m) = True := eq_true (by omega)
        have HIN3 := HINb.out
        rw [if_pos (.inl hm1)] at HIN3
        have HIN3 := Lib.hid HIN3
        clear HINb
        go_upto_region 19 with fail
        go_wp2_with (first
          | (refine (HCFb.out _ HS4.out).mono ?_; rintro e w5 ⟨rfl, k5⟩; have HK5 := Lib.hid (HK4.out.then k5); have HS5 := Lib.hid (HS4.out.keep0 k5); clear k5 HS4 HCFb)
          | (refine (HLIb.out _ HS5.out).mono ?_; intro e w6 hret; obtain ⟨A6, c6, ps6, hp6, rfl, _, _, k6⟩ := hret.opened; have HK6 := Lib.hid (HK5.out.then k6); have HS6 := Lib.hid (HS5.out.keep0 k6); clear k6 HS5 HLIb hret hp6 HK5)
          | (refine (HSTb.out _ HS6.out).mono ?_; rintro e w7 ⟨rfl, hs7, k7⟩; have HK7 : Hid (Keep [] w w7) := HK6.out.trans k7 (fun y hy h => by have := HLO.out y hy; omega); have HS7 := Lib.hid hs7; clear k7 hs7 HS6 HSTb)
          | (refine (HCMb.out _ HS7.out).mono ?_; rintro e w8 ⟨rfl, hs8, k8⟩; have HK8 : Hid (Keep [] w w8) := HK7.out.trans k8 (fun y hy h => by have := HLO.out y hy; omega); have HS8 := Lib.hid hs8; clear k8 hs8 HS7 HCMb HK7 HK6)
          | (refine (HBGb.out _ HS8.out).mono ?_; rintro e w9 ⟨rfl, hs9, k9⟩; have HK9 : Hid (Keep [] w w9) := HK8.out.trans k9 (fun y hy h => by have := HLO.out y hy; omega); have hin9 := HIN3.out w9 hs9 (HR.out.keep0 HK9.out) HOF.out; clear k9 hs9 HS8 HBGb HIN3 HK8)
          | (refine hin9.mono ?_; rintro e w10 ⟨rfl, hs10, k10⟩; have HK10 : Hid (Keep [] w w10) := HK9.out.trans k10 (fun y hy h => by have := HLO.out y hy; omega); clear k10 hs10 hin9 HK9)
          | (refine (HAL _).out.mono ?_; rintro e w11 ⟨rfl, k11⟩))
        go_ret
        exact ⟨rfl, HK10.out.then k11⟩
      · have p1 : decide ((rm : Int) < (m : Int)) = false := decide_eq_false (by omega)
        have p2 : (rm < m) = False := eq_false (by omega)
        by_cases hm2 : 4096 < m
        · have p3 : decide ((4096 : Int) < (m : Int)) = true := decide_eq_true (by omega)
          have p4 : (4096 < m) = True := eq_true (by omega)
          have HIN3 := HINb.out
          rw [if_pos (.inr hm2)] at HIN3
          have HIN3 := Lib.hid HIN3
          clear HINb
          go_upto_region 19 with fail
          go_wp2_with (first
            | (refine (HCFb.out _ HS4.out).mono ?_; rintro e w5 ⟨rfl, k5⟩; have HK5 := Lib.hid (HK4.out.then k5); have HS5 := Lib.hid (HS4.out.keep0 k5); clear k5 HS4 HCFb)
            | (refine (HLIb.out _ HS5.out).mono ?_; intro e w6 hret; obtain ⟨A6, c6, ps6, hp6, rfl, _, _, k6⟩ := hret.opened; have HK6 := Lib.hid (HK5.out.then k6); have HS6 := Lib.hid (HS5.out.keep0 k6); clear k6 HS5 HLIb hret hp6 HK5)
            | (refine (HSTb.out _ HS6.out).mono ?_; rintro e w7 ⟨rfl, hs7, k7⟩; have HK7 : Hid (Keep [] w w7) := HK6.out.trans k7 (fun y hy h => by have := HLO.out y hy; omega); have HS7 := Lib.hid hs7; clear k7 hs7 HS6 HSTb)
            | (refine (HCMb.out _ HS7.out).mono ?_; rintro e w8 ⟨rfl, hs8, k8⟩; have HK8 : Hid (Keep [] w w8) := HK7.out.trans k8 (fun y hy h => by have := HLO.out y hy; omega); have HS8 := Lib.hid hs8; clear k8 hs8 HS7 HCMb HK7 HK6)
            | (refine (HBGb.out _ HS8.out).mono ?_; rintro e w9 ⟨rfl, hs9, k9⟩; have HK9 : Hid (Keep [] w w9) := HK8.out.trans k9 (fun y hy h => by have := HLO.out y hy; omega); have hin9 := HIN3.out w9 hs9 (HR.out.keep0 HK9.out) HOF.out; clear k9 hs9 HS8 HBGb HIN3 HK8)
            | (refine hin9.mono ?_; rintro e w10 ⟨rfl, hs10, k10⟩; have HK10 : Hid (Keep [] w w10) := HK9.out.trans k10 (fun y hy h => by have := HLO.out y hy; omega); clear k10 hs10 hin9 HK9)
            | (refine (HAL _).out.mono ?_; rintro e w11 ⟨rfl, k11⟩))
          go_ret
          exact ⟨rfl, HK10.out.then k11⟩
        · have p3 : decide ((4096 : Int) < (m : Int)) = false := decide_eq_false (by omega)
          have p4 : (4096 < m) = False := eq_false (by omega)
          have HIN3 := HINb.out
          rw [if_neg (by omega), if_neg hm0] at HIN3
          have HIN3 := Lib.hid HIN3
          clear HINb
          go_upto_region 19 with fail
          go_wp2_with (first
            | (refine (HCFb.out _ HS4.out).mono ?_; rintro e w5 ⟨rfl, k5⟩; have HK5 := Lib.hid (HK4.out.then k5); have HS5 := Lib.hid (HS4.out.keep0 k5); clear k5 HS4 HCFb)
            | (refine (HLIb.out _ HS5.out).mono ?_; intro e w6 hret; obtain ⟨A6, c6, ps6, hp6, rfl, _, _, k6⟩ := hret.opened; have HK6 := Lib.hid (HK5.out.then k6); have HS6 := Lib.hid (HS5.out.keep0 k6); clear k6 HS5 HLIb hret hp6 HK5)
            | (refine (HSTb.out _ HS6.out).mono ?_; rintro e w7 ⟨rfl, hs7, k7⟩; have HK7 : Hid (Keep [] w w7) := HK6.out.trans k7 (fun y hy h => by have := HLO.out y hy; omega); have HS7 := Lib.hid hs7; clear k7 hs7 HS6 HSTb)
            | (refine (HCMb.out _ HS7.out).mono ?_; rintro e w8 ⟨rfl, hs8, k8⟩; have HK8 : Hid (Keep [] w w8) := HK7.out.trans k8 (fun y hy h => by have := HLO.out y hy; omega); have HS8 := Lib.hid hs8; clear k8 hs8 HS7 HCMb HK7 HK6)
            | (refine (HBGb.out _ HS8.out).mono ?_; rintro e w9 ⟨rfl, hs9, k9⟩; have HK9 : Hid (Keep [] w w9) := HK8.out.trans k9 (fun y hy h => by have := HLO.out y hy; omega); have hin9 := HIN3.out w9 hs9 (HR.out.keep0 HK9.out) HOF.out; clear k9 hs9 HS8 HBGb HIN3 HK8)
            | (refine hin9.mono ?_; rintro e w10 ⟨rfl, hs10, k10⟩; have HK10 : Hid (Keep [] w w10) := HK9.out.trans k10 (fun y hy h => by have := HLO.out y hy; omega); clear k10 hs10 hin9 HK9)
            | (refine (HAL _).out.mono ?_; rintro e w11 ⟨rfl, k11⟩))
          go_ret
          exact ⟨rfl, HK10.out.then k11⟩
theorem sfits_any (s n : Int) (A : Option Addr) (c : Nat) (l : List Nat) (w : World) (h : WordsAt w A l) :
    Calls Try.prog 8 #[.int .i64 s, .int .i64 n, .slice A l.length c] w fun e w' => e = .returned (.bool true) ∧ Keep [] w w' := by
  by_cases hb : s < 1 ∨ n < 1 ∨ 64 < s ∨ 1024 < n ∨ 5000 < s * n ∨ 5000 < l.length
  · exact sfits_bad s n A l.length c w h.len hb
  · obtain ⟨s', rfl⟩ : ∃ k : Nat, s = (k : Int) := ⟨s.toNat, by omega⟩
    obtain ⟨n', rfl⟩ : ∃ k : Nat, n = (k : Int) := ⟨n.toNat, by omega⟩
    have hm : (s' : Int) * (n' : Int) = ((s' * n' : Nat) : Int) := by rw [Int.natCast_mul]
    rw [hm] at hb
    exact sfits_good s' n' A l.length c l w rfl h.lt h.rows (by omega) (by omega) (by omega) (by omega) (by omega) (by omega)
end Go.Proofs.Yteanpgkonhdbpaa
