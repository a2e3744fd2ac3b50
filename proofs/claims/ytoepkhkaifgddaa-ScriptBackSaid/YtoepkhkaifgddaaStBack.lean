/- The statement ScriptBack, walked for any row of steps and any text. No other condition. -/
import Derived.Test.YtoepkhkaifgddaaStBackP
import Derived.Test.YtoepkhkaifgddaaStTexts
namespace Go.Proofs.Ytoepkhkaifgddaa
open Go.RowKit

theorem textS_size {l : List Stp} {t : List UInt8} (h : textS l = some t) : (mkB t).size ≤ 1000000 := by
  unfold textS at h
  split at h
  · cases h
  · have := (textF_some l [] t h).1 (by decide)
    rw [mkB_size]
    omega
theorem steps_words {w : World} {A : Option Addr} {ms : List (Stp × StpV)} (h : StepsAt w A ms) : ∀ s ∈ stps ms, WordsOk s := fun s hs => by
  obtain ⟨m, hm, rfl⟩ := List.mem_map.1 hs
  exact (h.each m hm).ok

set_option maxRecDepth 100000 in
set_option maxHeartbeats 8000000 in
theorem back34_any (A : Option Addr) (c : Nat) (ms : List (Stp × StpV)) (S : ByteArray) (w : World) (h : StepsAt w A ms) :
    Calls Try.prog 9 #[.slice A ms.length c, .string S] w fun e w' => e = .returned (.bool true) ∧ Keep [] w w' := by
  have HG := fun W k => Lib.hid (stgreat_any A c ms W (h.keep0 k))
  have hgo := greatS_ok (l := stps ms)
  generalize greatS (stps ms) = gr at *
  by_cases hbig : 20000 < S.size
  · have hq : decide ((20000 : Int) < (S.size : Int)) = true := decide_eq_true (by omega)
    clear hbig
    go_enter Try.func9, Try.ntmps9
    go_wp2
    go_ret
    exact ⟨rfl, Keep.refl _ _⟩
  · have hq : decide ((20000 : Int) < (S.size : Int)) = false := decide_eq_false (by omega)
    have hS : S.size ≤ 20000 := by omega
    clear hbig
    go_enter Try.func9, Try.ntmps9
    go_wp2_with fail
    refine (HG _ (Keep.refl _ _)).out.mono ?_
    rintro e w1 ⟨rfl, k1⟩
    cases gr
    · obtain ⟨hl6, hgs⟩ := hgo rfl
      have h1 := h.keep0 k1
      have HW := Lib.hid (steps_words h)
      have HSM := fun W k B d mm hm => Lib.hid (ssame_any A B c d ms mm W (h1.keep0 k) hm)
      have HRM := fun W k B d mm hm => Lib.hid (rstsame_any A B c d ms mm W (h1.keep0 k) hm)
      have HK1 := Lib.hid k1
      have HTX := Lib.hid (text_any34 A c ms w1 h1 (fun s hs => by have := hgs s hs; omega))
      have HP := fun W => Lib.hid (sparse_any S W (by omega))
      have hpl := parseS_lens S
      have hpe := parseS_err S
      have HAL := fun W => Lib.hid (alive34_any W)
      have hbk := fun t => text_back (l := stps ms) (t := t)
      have hsz := fun t => textS_size (l := stps ms) (t := t)
      clear hgo HG k1 h h1 hgs hl6
      generalize parseS S = pr at *
      obtain ⟨pl, pa, pc⟩ := pr
      dsimp only at hpl hpe
      generalize hn : ms.length = n at *
      cases hT : textS (stps ms) with
      | none =>
        rw [hT] at HTX
        clear hbk hsz HSM HRM
        go_wp2_with fail
        refine HTX.out.mono ?_
        rintro e w2 ⟨he2, k2⟩
        obtain rfl : e = .returned (.tuple #[.string { data := #[] }, .int .i64 340]) := he2
        have HK2 := Lib.hid k2
        clear k2
        go_wp2_with fail
        refine (HP _).out.mono ?_
        rintro e w4 ⟨A1, c1, ms1, hm1, rfl, hO1, k4⟩
        dsimp only at hm1
        have HK4 := Lib.hid (HK2.out.then k4)
        have HO1 := Lib.hid hO1.steps
        have HT1 := Lib.hid (text_any34 A1 c1 ms1 w4 hO1.steps (fun s hs => by have := hpl s (by rw [hm1]; exact hs); omega))
        have hst : stps ms1 = pl := hm1.symm
        have hln : ms1.length = pl.length := by rw [← hst]; simp
        rw [hst] at HT1
        rw [hln] at HT1 ⊢
        have HLN := Lib.hid hln
        have HM1 := Lib.hid hm1
        clear k4 hO1 hln hm1 hst
        rcases hpe with rfl | ⟨rfl, rfl⟩
        · cases hT1 : textS pl with
          | none =>
            rw [hT1] at HT1
            go_wp2_with fail
            refine HT1.out.mono ?_
            rintro e w5 ⟨he5, k5⟩
            obtain rfl : e = .returned (.tuple #[.string { data := #[] }, .int .i64 340]) := he5
            have HK5 := Lib.hid (HK4.out.then k5)
            clear k5
            generalize pl.length = n1 at *
            go_wp2_with fail
            refine (HAL _).out.mono ?_
            rintro e w6 ⟨rfl, k6⟩
            have HK6 := Lib.hid (HK1.out.then (HK5.out.then k6))
            clear k6
            go_wp2
            go_ret
            exact ⟨rfl, HK6.out⟩
          | some t1 =>
            rw [hT1] at HT1
            have hb1 := text_back hT1 (fun s hs => (hpl s hs).2.2)
            have hP2 := fun W => Lib.hid (sparse_any (mkB t1) W (textS_size hT1))
            rw [hb1] at hP2
            go_wp2_with fail
            refine HT1.out.mono ?_
            rintro e w5 ⟨he5, k5⟩
            obtain rfl : e = .returned (.tuple #[.string (mkB t1), .int .i64 0]) := he5
            have HK5 := Lib.hid (HK4.out.then k5)
            have HO5 := Lib.hid (HO1.out.keep0 k5)
            clear k5
            go_wp2_with fail
            refine (hP2 _).out.mono ?_
            rintro e w6 ⟨A2, c2, ms2, hm2, rfl, hO2, k6⟩
            dsimp only at hm2
            have HSS := Lib.hid (rstsame_any A1 A2 c1 c2 ms1 ms2 w6 (HO5.out.keep0 k6) hO2.steps)
            rw [show decide (stps ms1 = stps ms2) = true from decide_eq_true (HM1.out.symm.trans hm2), HLN.out] at HSS
            have HK6 := Lib.hid (HK5.out.then k6)
            clear k6 hO2 hm2
            generalize pl.length = n1 at *
            generalize ms2.length = n2 at *
            go_wp2_with fail
            refine HSS.out.mono ?_
            rintro e w7 ⟨rfl, k7⟩
            have HK7 := Lib.hid (HK6.out.then k7)
            clear k7
            go_wp2_with fail
            refine (HAL _).out.mono ?_
            rintro e w8 ⟨rfl, k8⟩
            have HK8 := Lib.hid (HK1.out.then (HK7.out.then k8))
            clear k8
            go_wp2
            go_ret
            exact ⟨rfl, HK8.out⟩
        · have e0 : textS [] = some [] := rfl
          rw [e0] at HT1
          go_wp2_with fail
          refine HT1.out.mono ?_
          rintro e w5 ⟨he5, k5⟩
          obtain rfl : e = .returned (.tuple #[.string { data := #[] }, .int .i64 0]) := he5
          have HK5 := Lib.hid (HK4.out.then k5)
          clear k5
          go_wp2_with fail
          refine (HAL _).out.mono ?_
          rintro e w6 ⟨rfl, k6⟩
          have HK6 := Lib.hid (HK1.out.then (HK5.out.then k6))
          clear k6
          go_wp2
          go_ret
          exact ⟨rfl, HK6.out⟩
      | some t =>
        rw [hT] at HTX
        have hb := hbk t hT HW.out
        have hP1 := fun W => Lib.hid (sparse_any (mkB t) W (hsz t hT))
        rw [hb] at hP1
        clear hbk hsz
        go_wp2_with fail
        refine HTX.out.mono ?_
        rintro e w2 ⟨he2, k2⟩
        obtain rfl : e = .returned (.tuple #[.string (mkB t), .int .i64 0]) := he2
        have HK2 := Lib.hid k2
        clear k2
        go_wp2_with fail
        refine (hP1 _).out.mono ?_
        rintro e w2b ⟨A0, c0, ms0, hm0, rfl, hO0, k2b⟩
        dsimp only at hm0
        have HK2b := Lib.hid (HK2.out.then k2b)
        have HO0 := Lib.hid hO0.steps
        have hdd : decide (stps ms = stps ms0) = true := decide_eq_true hm0
        have HS1 := HSM _ HK2b.out A0 c0 ms0 hO0.steps
        rw [hdd] at HS1
        clear k2b hO0
        go_wp2_with fail
        refine HS1.out.mono ?_
        rintro e w2c ⟨rfl, k2c⟩
        have HK2c := Lib.hid (HK2b.out.then k2c)
        have HS2 := HRM _ HK2c.out A0 c0 ms0 (HO0.out.keep0 k2c)
        rw [hdd] at HS2
        clear k2c
        go_wp2_with fail
        refine HS2.out.mono ?_
        rintro e w2d ⟨rfl, k2d⟩
        have HK2d := Lib.hid (HK2c.out.then k2d)
        clear k2d HSM HRM HS1 HS2 HO0
        go_wp2_with fail
        refine (HP _).out.mono ?_
        rintro e w4 ⟨A1, c1, ms1, hm1, rfl, hO1, k4⟩
        dsimp only at hm1
        have HK4 := Lib.hid (HK2d.out.then k4)
        have HO1 := Lib.hid hO1.steps
        have HT1 := Lib.hid (text_any34 A1 c1 ms1 w4 hO1.steps (fun s hs => by have := hpl s (by rw [hm1]; exact hs); omega))
        have hst : stps ms1 = pl := hm1.symm
        have hln : ms1.length = pl.length := by rw [← hst]; simp
        rw [hst] at HT1
        rw [hln] at HT1 ⊢
        have HLN := Lib.hid hln
        have HM1 := Lib.hid hm1
        clear k4 hO1 hln hm1 hst
        rcases hpe with rfl | ⟨rfl, rfl⟩
        · cases hT1 : textS pl with
          | none =>
            rw [hT1] at HT1
            go_wp2_with fail
            refine HT1.out.mono ?_
            rintro e w5 ⟨he5, k5⟩
            obtain rfl : e = .returned (.tuple #[.string { data := #[] }, .int .i64 340]) := he5
            have HK5 := Lib.hid (HK4.out.then k5)
            clear k5
            generalize pl.length = n1 at *
            go_wp2_with fail
            refine (HAL _).out.mono ?_
            rintro e w6 ⟨rfl, k6⟩
            have HK6 := Lib.hid (HK1.out.then (HK5.out.then k6))
            clear k6
            go_wp2
            go_ret
            exact ⟨rfl, HK6.out⟩
          | some t1 =>
            rw [hT1] at HT1
            have hb1 := text_back hT1 (fun s hs => (hpl s hs).2.2)
            have hP2 := fun W => Lib.hid (sparse_any (mkB t1) W (textS_size hT1))
            rw [hb1] at hP2
            go_wp2_with fail
            refine HT1.out.mono ?_
            rintro e w5 ⟨he5, k5⟩
            obtain rfl : e = .returned (.tuple #[.string (mkB t1), .int .i64 0]) := he5
            have HK5 := Lib.hid (HK4.out.then k5)
            have HO5 := Lib.hid (HO1.out.keep0 k5)
            clear k5
            go_wp2_with fail
            refine (hP2 _).out.mono ?_
            rintro e w6 ⟨A2, c2, ms2, hm2, rfl, hO2, k6⟩
            dsimp only at hm2
            have HSS := Lib.hid (rstsame_any A1 A2 c1 c2 ms1 ms2 w6 (HO5.out.keep0 k6) hO2.steps)
            rw [show decide (stps ms1 = stps ms2) = true from decide_eq_true (HM1.out.symm.trans hm2), HLN.out] at HSS
            have HK6 := Lib.hid (HK5.out.then k6)
            clear k6 hO2 hm2
            generalize pl.length = n1 at *
            generalize ms2.length = n2 at *
            go_wp2_with fail
            refine HSS.out.mono ?_
            rintro e w7 ⟨rfl, k7⟩
            have HK7 := Lib.hid (HK6.out.then k7)
            clear k7
            go_wp2_with fail
            refine (HAL _).out.mono ?_
            rintro e w8 ⟨rfl, k8⟩
            have HK8 := Lib.hid (HK1.out.then (HK7.out.then k8))
            clear k8
            go_wp2
            go_ret
            exact ⟨rfl, HK8.out⟩
        · have e0 : textS [] = some [] := rfl
          rw [e0] at HT1
          go_wp2_with fail
          refine HT1.out.mono ?_
          rintro e w5 ⟨he5, k5⟩
          obtain rfl : e = .returned (.tuple #[.string { data := #[] }, .int .i64 0]) := he5
          have HK5 := Lib.hid (HK4.out.then k5)
          clear k5
          go_wp2_with fail
          refine (HAL _).out.mono ?_
          rintro e w6 ⟨rfl, k6⟩
          have HK6 := Lib.hid (HK1.out.then (HK5.out.then k6))
          clear k6
          go_wp2
          go_ret
          exact ⟨rfl, HK6.out⟩
    · go_wp2
      go_ret
      exact ⟨rfl, k1⟩
end Go.Proofs.Ytoepkhkaifgddaa
