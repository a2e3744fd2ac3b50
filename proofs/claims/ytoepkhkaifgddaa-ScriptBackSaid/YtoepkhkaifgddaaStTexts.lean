/- The statement ScriptTexts, walked for any row of steps and any text. No other condition. -/
import Derived.Test.YtoepkhkaifgddaaStText
import Derived.Test.YtoepkhkaifgddaaStRParse
import Derived.Test.YtoepkhkaifgddaaStRLineW
namespace Go.Proofs.Ytoepkhkaifgddaa
open Go.RowKit

/-- The law's own text, as far as it goes; and whether all steps were right. -/
def wantL : List Stp → List UInt8 → List UInt8 × Bool
  | [], acc => (acc, true)
  | s :: r, acc => if rightP s && decide (acc.length ≤ 65536) then wantL r (acc ++ (lineT s ++ [10])) else (acc ++ (lineT s ++ [10]), false)
theorem wantL_len : ∀ (l : List Stp) (acc : List UInt8), acc.length ≤ (wantL l acc).1.length
  | [], _ => Nat.le_refl _
  | s :: r, acc => by
    rw [wantL]
    split
    · have := wantL_len r (acc ++ (lineT s ++ [10]))
      simp only [List.length_append] at this
      omega
    · simp
theorem toList_empty {S : ByteArray} : (S.toList == []) = true ↔ bytesOf S = [] := by rw [ByteArray.toList_eq]; simp
theorem lineT_nil {s : Stp} : lineT s = [] ↔ rightP s = false := by
  constructor
  · intro h
    cases hr : rightP s with
    | false => rfl
    | true =>
      unfold lineT at h
      rw [hr] at h
      have h1 : bytesOf (shp s.kind).1 = [] := (List.append_eq_nil_iff.1 h).1
      unfold rightP at hr
      simp only [Bool.and_eq_true] at hr
      have h2 := shp_word s.kind
      rw [hr.1.1.1.1, toList_empty.2 h1] at h2
      cases h2
  · intro h
    unfold lineT
    rw [h]; rfl
theorem textF_want : ∀ (l : List Stp) (acc : List UInt8), acc.length ≤ 65536 → textF l acc = if (wantL l acc).2 = true ∧ (wantL l acc).1.length ≤ 65536 then some (wantL l acc).1 else none
  | [], acc, h => by rw [textF, wantL, if_pos ⟨rfl, h⟩]
  | s :: r, acc, h => by
    rw [textF, wantL]
    cases hr : rightP s with
    | false =>
      rw [if_pos (.inl (lineT_nil.2 hr))]
      simp
    | true =>
      have hn : lineT s ≠ [] := fun e => by rw [lineT_nil.1 e] at hr; cases hr
      rw [show (true && decide (acc.length ≤ 65536)) = true by simp [h], if_pos rfl]
      by_cases hl : 65536 < acc.length + (lineT s).length + 1
      · rw [if_pos (.inr hl)]
        have := wantL_len r (acc ++ (lineT s ++ [10]))
        rw [if_neg]
        rintro ⟨_, h2⟩
        simp at this
        omega
      · rw [if_neg (fun h1 => h1.elim hn hl)]
        exact textF_want r _ (by simp; omega)
theorem own_len {w : World} {base : Nat} {e : TypeId} {size n : Nat} {v : Value} {xs : List Value} (h : w.ownsRow base e size v n xs) : n ≤ maxLen := by
  rcases h.2 with ⟨_, rfl⟩ | ⟨_, cap, _, _, _, _, h1, h2, _⟩
  · exact Nat.zero_le _
  · omega
theorem OwnSteps.steps {W : World} {b : Nat} {A : Option Addr} {n c : Nat} {ms : List (Stp × StpV)} (h : OwnSteps W b (.slice A n c) ms) : StepsAt W A ms := (h.at_ (own_len h.row)).2

theorem run_len_str (acc : List UInt8) (w : World) : (Builtin.len_ #[9] 3 #[strOf acc]).run Try.prog w = .ok (.int .i64 (acc.length : Int)) w := by
  unfold strOf
  simp [Builtin.len_, go_sem, size_mk]

set_option maxRecDepth 100000 in
set_option maxHeartbeats 8000000 in
theorem texts34_any (A : Option Addr) (c : Nat) (ms : List (Stp × StpV)) (S : ByteArray) (w : World) (h : StepsAt w A ms) :
    Calls Try.prog 8 #[.slice A ms.length c, .string S] w fun e w' => e = .returned (.bool true) ∧ Keep [] w w' := by
  have HG := fun W k => Lib.hid (stgreat_any A c ms W (h.keep0 k))
  have hgo := greatS_ok (l := stps ms)
  have hsl : (stps ms).length = ms.length := by simp [stps]
  generalize greatS (stps ms) = gr at *
  by_cases hbig : 20000 < S.size
  · have hq : decide ((20000 : Int) < (S.size : Int)) = true := decide_eq_true (by omega)
    clear hbig
    go_enter Try.func8, Try.ntmps8
    go_wp2
    go_ret
    exact ⟨rfl, Keep.refl _ _⟩
  · have hq : decide ((20000 : Int) < (S.size : Int)) = false := decide_eq_false (by omega)
    have hS : S.size ≤ 1000000 := by omega
    clear hbig
    go_enter Try.func8, Try.ntmps8
    go_wp2_with fail
    refine (HG _ (Keep.refl _ _)).out.mono ?_
    rintro e w1 ⟨rfl, k1⟩
    cases gr
    · obtain ⟨hl6, hgs⟩ := hgo rfl
      have h1 := h.keep0 k1
      have hml : ms.length ≤ 600 := by omega
      have hs := h1.step
      have he := h1.each
      have HK1 := Lib.hid k1
      clear hgo HG k1
      obtain ⟨fin, hfin⟩ : ∃ fin : List UInt8 × Bool, fin = if ms.length ≤ 512 then wantL (stps ms) [] else ([], false) := ⟨_, rfl⟩
      have HT : Hid (textS (stps ms) = if fin.2 = true ∧ fin.1.length ≤ 65536 then some fin.1 else none) := by
        show _ = _
        rw [hfin]
        unfold textS
        rw [hsl]
        by_cases h5 : 512 < ms.length
        · have h6 : ¬ ms.length ≤ 512 := by omega
          simp [h5, h6]
        · have h6 : ms.length ≤ 512 := by omega
          rw [if_neg h5, if_pos h6]
          exact textF_want _ _ (by decide)
      obtain ⟨r0, hr0⟩ : ∃ r0, r0 = decide (ms.length ≤ 512) := ⟨_, rfl⟩
      have hr1 : decide ((ms.length : Int) ≤ 512) = r0 := by rw [hr0]; by_cases h5 : ms.length ≤ 512 <;> simp [h5] <;> omega
      have HF0 : Hid (fin = if r0 then wantL ((stps ms).drop 0) [] else ([], false)) := by
        show _ = _
        rw [hfin, hr0]
        by_cases h5 : ms.length ≤ 512 <;> simp [h5]
      clear hfin hr0
      have HTX := fun W k => Lib.hid (text_any34 A c ms W (h1.keep0 k) (fun s hs => by have := hgs s hs; omega))
      have HP := fun W => Lib.hid (sparse_any S W hS)
      have HRP := fun W => Lib.hid (rparse_any S W hS)
      have HAL := fun W => Lib.hid (alive34_any W)
      clear h
      go_wp2
      go_loopw [5, 6, 7] (fun v5 v6 v7 wr => ∃ (k : Nat) (acc : List UInt8) (r : Bool), k ≤ ms.length ∧ v5 = strOf acc ∧ v6 = .bool r ∧ v7 = .int .i64 (k : Int) ∧ (fin = if r then wantL ((stps ms).drop k) acc else (acc, false)) ∧ acc.length ≤ 300000000 + (if r then 0 else 300000000) ∧ Keep [] w1 wr) (fun _ _ v7 _ => ms.length - (intOf v7).toNat)
      case atStart => exact ⟨0, [], r0, Nat.zero_le _, rfl, rfl, rfl, HF0.out, by simp, Keep.refl _ _⟩
      case round =>
        obtain ⟨k, acc, r, hk, rfl, rfl, rfl, hf, hal, hkw⟩ := hrel
        have HF := Lib.hid hf
        have HKW := Lib.hid hkw
        clear hf hkw
        cases r
        · have HTE : Hid (textS (stps ms) = none) := by show _ = _; rw [HT.out, HF.out]; simp
          clear HF HT hs he hgs
          generalize parseS S = pr at *
          obtain ⟨pl, pa, pc⟩ := pr
          by_cases p1 : (k : Int) < (ms.length : Int)
          · skip
            have HT1 := HTX _ HKW.out
            rw [HTE.out] at HT1
            go_wp2_with fail
            refine HT1.out.mono ?_
            rintro e w4 ⟨he4, k4⟩
            obtain rfl : e = .returned (.tuple #[.string { data := #[] }, .int .i64 340]) := he4
            have HK4 := Lib.hid (HKW.out.then k4)
            clear k4 HT1
            go_wp2_with fail
            refine (HP _).out.mono ?_
            rintro e w5 ⟨A1, c1, ms1, hm1, rfl, hO1, k5⟩
            have HK5 := Lib.hid (HK4.out.then k5)
            have HO1 := Lib.hid hO1
            clear k5 hO1
            go_wp2_with fail
            refine (HRP _).out.mono ?_
            rintro e w6 ⟨A2, c2, ms2, hm2, rfl, hO2, k6⟩
            have HK6 := Lib.hid (HK5.out.then k6)
            have HSM := Lib.hid (rstsame_any A1 A2 c1 c2 ms1 ms2 w6 (HO1.out.steps.keep0 k6) hO2.steps)
            rw [show decide (stps ms1 = stps ms2) = true from decide_eq_true (hm1.symm.trans hm2)] at HSM
            clear k6 hO2 hm1 hm2
            generalize ms1.length = n1 at *
            generalize ms2.length = n2 at *
            go_wp2_with fail
            refine HSM.out.mono ?_
            rintro e w7 ⟨rfl, k7⟩
            have HK7 := Lib.hid (HK6.out.then k7)
            clear k7
            go_wp2_with fail
            refine (HAL _).out.mono ?_
            rintro e w8 ⟨rfl, k8⟩
            have HK8 := Lib.hid (HK1.out.then (HK7.out.then k8))
            clear k8
            go_wp2
            go_ret
            exact ⟨rfl, HK8.out⟩
          · skip
            have HT1 := HTX _ HKW.out
            rw [HTE.out] at HT1
            go_wp2_with fail
            refine HT1.out.mono ?_
            rintro e w4 ⟨he4, k4⟩
            obtain rfl : e = .returned (.tuple #[.string { data := #[] }, .int .i64 340]) := he4
            have HK4 := Lib.hid (HKW.out.then k4)
            clear k4 HT1
            go_wp2_with fail
            refine (HP _).out.mono ?_
            rintro e w5 ⟨A1, c1, ms1, hm1, rfl, hO1, k5⟩
            have HK5 := Lib.hid (HK4.out.then k5)
            have HO1 := Lib.hid hO1
            clear k5 hO1
            go_wp2_with fail
            refine (HRP _).out.mono ?_
            rintro e w6 ⟨A2, c2, ms2, hm2, rfl, hO2, k6⟩
            have HK6 := Lib.hid (HK5.out.then k6)
            have HSM := Lib.hid (rstsame_any A1 A2 c1 c2 ms1 ms2 w6 (HO1.out.steps.keep0 k6) hO2.steps)
            rw [show decide (stps ms1 = stps ms2) = true from decide_eq_true (hm1.symm.trans hm2)] at HSM
            clear k6 hO2 hm1 hm2
            generalize ms1.length = n1 at *
            generalize ms2.length = n2 at *
            go_wp2_with fail
            refine HSM.out.mono ?_
            rintro e w7 ⟨rfl, k7⟩
            have HK7 := Lib.hid (HK6.out.then k7)
            clear k7
            go_wp2_with fail
            refine (HAL _).out.mono ?_
            rintro e w8 ⟨rfl, k8⟩
            have HK8 := Lib.hid (HK1.out.then (HK7.out.then k8))
            clear k8
            go_wp2
            go_ret
            exact ⟨rfl, HK8.out⟩
        · replace hal : acc.length ≤ 300000000 := by simpa using hal
          by_cases hlt : k < ms.length
          · obtain ⟨b, o, hA, hbA, hc⟩ := hs (by omega)
            have hlk : k < (stps ms).length := by omega
            have hlm := hgs ms[k].1 (List.mem_map.2 ⟨ms[k], List.getElem_mem hlt, rfl⟩)
            have hm := he ms[k] (List.getElem_mem hlt)
            have hdr : Hid (fin = if (rightP ms[k].1 && decide (acc.length ≤ 65536)) = true then wantL ((stps ms).drop (k + 1)) (acc ++ (lineT ms[k].1 ++ [10])) else (acc ++ (lineT ms[k].1 ++ [10]), false)) := by
              show _ = _
              rw [HF.out, List.drop_eq_getElem_cons hlk, show (stps ms)[k] = ms[k].1 by simp [stps]]
              rfl
            have ci := hc k hlt
            have hcell := fun W (kk : Keep [] w1 W) j u hu => (kk.cell (p := ⟨b, o + k * 5 + j, none⟩) hbA (by simp)).trans (ci j u hu)
            have p0 : (0 : Int) ≤ (k : Int) := by omega
            have p1 : (k : Int) < (ms.length : Int) := by omega
            clear ci hc HF
            generalize ms[k] = m at *
            obtain ⟨s, v⟩ := m
            dsimp only at hdr hm hlm
            have hcl := fun W kk => Lib.hid (show W.cell? ⟨b, o + k * 5, none⟩ = some (.int .i64 s.kind) ∧ W.cell? ⟨b, o + k * 5 + 1, none⟩ = some (.int .i64 s.a) ∧ W.cell? ⟨b, o + k * 5 + 2, none⟩ = some (.int .i64 s.n) ∧ W.cell? ⟨b, o + k * 5 + 3, none⟩ = some (.slice v.sa s.secs.length v.sc) ∧ W.cell? ⟨b, o + k * 5 + 4, none⟩ = some (.slice v.wa s.words.length v.wc) from
              ⟨by simpa using hcell W kk 0 _ rfl, hcell W kk 1 _ rfl, hcell W kk 2 _ rfl, hcell W kk 3 _ rfl, hcell W kk 4 _ rfl⟩)
            have HRI := fun W kk => Lib.hid (rright_any s v W (hm.keep0 kk))
            have HLI := fun W kk => Lib.hid (rline_any s v W (hm.keep0 kk) (by omega) (by omega))
            have htl := lineT_len (s := s) (by omega) (by omega)
            clear hcell hm
            generalize lineT s = t at *
            generalize rightP s = rp at *
            rw [hA]
            have HA := Lib.hid hA
            clear hA
            obtain ⟨c0, c1, c2, c3, c4⟩ := (hcl _ HKW.out).out
            go_wp2_with fail
            refine (HRI _ HKW.out).out.mono ?_
            rintro e w2 ⟨rfl, k2⟩
            have HK2 := Lib.hid (HKW.out.then k2)
            clear k2 c0 c1 c2 c3 c4
            obtain ⟨c0, c1, c2, c3, c4⟩ := (hcl _ HK2.out).out
            have hlen := run_len_str acc
            cases rp
            · have hE : Hid (fin = (acc ++ (t ++ [10]), false)) := by show _ = _; rw [hdr.out]; simp
              clear hdr
              go_wp2_with fail
              refine (HLI _ HK2.out).out.mono ?_
              rintro e w3 ⟨rfl, k3⟩
              have HK3 := Lib.hid (HK2.out.then k3)
              clear k3 c0 c1 c2 c3 c4
              have had1 : ∀ W, (binOp .add 9 (strOf t) (.string { data := #[10] })).run Try.prog W = .ok (strOf (t ++ [10])) W := fun W => run_add_str (P := Try.prog) 9 t [10] (by simp; omega) W
              have had2 : ∀ W, (binOp .add 9 (strOf acc) (strOf (t ++ [10]))).run Try.prog W = .ok (strOf (acc ++ (t ++ [10]))) W := fun W => run_add_str (P := Try.prog) 9 acc (t ++ [10]) (by simp; omega) W
              go_wp2
              go_roundw
              case rel => exact ⟨k + 1, acc ++ (t ++ [10]), false, by omega, rfl, rfl, by go_num, hE.out, by simp; omega, HK3.out⟩
              case measure => simp [intOf]; omega
            · by_cases h65 : acc.length ≤ 65536
              · have hE : Hid (fin = wantL ((stps ms).drop (k + 1)) (acc ++ (t ++ [10]))) := by show _ = _; rw [hdr.out]; simp [h65]
                have hq5 : decide ((acc.length : Int) ≤ 65536) = true := decide_eq_true (by omega)
                clear hdr
                go_wp2_with fail
                refine (HLI _ HK2.out).out.mono ?_
                rintro e w3 ⟨rfl, k3⟩
                have HK3 := Lib.hid (HK2.out.then k3)
                clear k3 c0 c1 c2 c3 c4
                have had1 : ∀ W, (binOp .add 9 (strOf t) (.string { data := #[10] })).run Try.prog W = .ok (strOf (t ++ [10])) W := fun W => run_add_str (P := Try.prog) 9 t [10] (by simp; omega) W
                have had2 : ∀ W, (binOp .add 9 (strOf acc) (strOf (t ++ [10]))).run Try.prog W = .ok (strOf (acc ++ (t ++ [10]))) W := fun W => run_add_str (P := Try.prog) 9 acc (t ++ [10]) (by simp; omega) W
                go_wp2
                go_roundw
                case rel => exact ⟨k + 1, acc ++ (t ++ [10]), true, by omega, rfl, rfl, by go_num, hE.out, by simp; omega, HK3.out⟩
                case measure => simp [intOf]; omega
              · have hE : Hid (fin = (acc ++ (t ++ [10]), false)) := by show _ = _; rw [hdr.out]; simp [h65]
                have hq5 : decide ((acc.length : Int) ≤ 65536) = false := decide_eq_false (by omega)
                clear hdr
                go_wp2_with fail
                refine (HLI _ HK2.out).out.mono ?_
                rintro e w3 ⟨rfl, k3⟩
                have HK3 := Lib.hid (HK2.out.then k3)
                clear k3 c0 c1 c2 c3 c4
                have had1 : ∀ W, (binOp .add 9 (strOf t) (.string { data := #[10] })).run Try.prog W = .ok (strOf (t ++ [10])) W := fun W => run_add_str (P := Try.prog) 9 t [10] (by simp; omega) W
                have had2 : ∀ W, (binOp .add 9 (strOf acc) (strOf (t ++ [10]))).run Try.prog W = .ok (strOf (acc ++ (t ++ [10]))) W := fun W => run_add_str (P := Try.prog) 9 acc (t ++ [10]) (by simp; omega) W
                go_wp2
                go_roundw
                case rel => exact ⟨k + 1, acc ++ (t ++ [10]), false, by omega, rfl, rfl, by go_num, hE.out, by simp; omega, HK3.out⟩
                case measure => simp [intOf]; omega
          · have p1 : ¬ (k : Int) < (ms.length : Int) := by omega
            have hkl : (stps ms).drop k = [] := List.drop_eq_nil_iff.2 (by omega)
            have hfe : fin = (acc, true) := by rw [HF.out, hkl]; rfl
            generalize parseS S = pr at *
            obtain ⟨pl, pa, pc⟩ := pr
            by_cases h65 : acc.length ≤ 65536
            · have HTE : Hid (textS (stps ms) = some acc) := by show _ = _; rw [HT.out, hfe]; simp [h65]
              have hq5 : decide ((65536 : Int) < (acc.length : Int)) = false := decide_eq_false (by omega)
              have hlen := run_len_str acc
              clear HF HT hs he hgs hfe hkl h65
              have HT1 := HTX _ HKW.out
              rw [HTE.out] at HT1
              go_wp2_with fail
              refine HT1.out.mono ?_
              rintro e w4 ⟨he4, k4⟩
              obtain rfl : e = .returned (.tuple #[strOf acc, .int .i64 0]) := he4
              have HK4 := Lib.hid (HKW.out.then k4)
              clear k4 HT1
              go_wp2_with fail
              refine (HP _).out.mono ?_
              rintro e w5 ⟨A1, c1, ms1, hm1, rfl, hO1, k5⟩
              have HK5 := Lib.hid (HK4.out.then k5)
              have HO1 := Lib.hid hO1
              clear k5 hO1
              go_wp2_with fail
              refine (HRP _).out.mono ?_
              rintro e w6 ⟨A2, c2, ms2, hm2, rfl, hO2, k6⟩
              have HK6 := Lib.hid (HK5.out.then k6)
              have HSM := Lib.hid (rstsame_any A1 A2 c1 c2 ms1 ms2 w6 (HO1.out.steps.keep0 k6) hO2.steps)
              rw [show decide (stps ms1 = stps ms2) = true from decide_eq_true (hm1.symm.trans hm2)] at HSM
              clear k6 hO2 hm1 hm2
              generalize ms1.length = n1 at *
              generalize ms2.length = n2 at *
              have heqs : ∀ W, (binOp .eql 9 (strOf acc) (strOf acc)).run Try.prog W = .ok (.bool true) W := fun W => (run_eql_str (P := Try.prog) 9 acc acc W).trans (by simp)
              have hegs : ∀ W, (eqGuard BinOp.eql 9 (.tmp 77) (.tmp 78) (strOf acc) (strOf acc)).run Try.prog W = .ok () W := fun W => rfl
              go_wp2_with fail
              refine HSM.out.mono ?_
              rintro e w7 ⟨rfl, k7⟩
              have HK7 := Lib.hid (HK6.out.then k7)
              clear k7
              go_wp2_with fail
              refine (HAL _).out.mono ?_
              rintro e w8 ⟨rfl, k8⟩
              have HK8 := Lib.hid (HK1.out.then (HK7.out.then k8))
              clear k8
              go_wp2
              go_ret
              exact ⟨rfl, HK8.out⟩
            · have HTE : Hid (textS (stps ms) = none) := by show _ = _; rw [HT.out, hfe]; simp [h65]
              have hq5 : decide ((65536 : Int) < (acc.length : Int)) = true := decide_eq_true (by omega)
              have hlen := run_len_str acc
              clear HF HT hs he hgs hfe hkl h65
              have HT1 := HTX _ HKW.out
              rw [HTE.out] at HT1
              go_wp2_with fail
              refine HT1.out.mono ?_
              rintro e w4 ⟨he4, k4⟩
              obtain rfl : e = .returned (.tuple #[.string { data := #[] }, .int .i64 340]) := he4
              have HK4 := Lib.hid (HKW.out.then k4)
              clear k4 HT1
              go_wp2_with fail
              refine (HP _).out.mono ?_
              rintro e w5 ⟨A1, c1, ms1, hm1, rfl, hO1, k5⟩
              have HK5 := Lib.hid (HK4.out.then k5)
              have HO1 := Lib.hid hO1
              clear k5 hO1
              go_wp2_with fail
              refine (HRP _).out.mono ?_
              rintro e w6 ⟨A2, c2, ms2, hm2, rfl, hO2, k6⟩
              have HK6 := Lib.hid (HK5.out.then k6)
              have HSM := Lib.hid (rstsame_any A1 A2 c1 c2 ms1 ms2 w6 (HO1.out.steps.keep0 k6) hO2.steps)
              rw [show decide (stps ms1 = stps ms2) = true from decide_eq_true (hm1.symm.trans hm2)] at HSM
              clear k6 hO2 hm1 hm2
              generalize ms1.length = n1 at *
              generalize ms2.length = n2 at *
              go_wp2_with fail
              refine HSM.out.mono ?_
              rintro e w7 ⟨rfl, k7⟩
              have HK7 := Lib.hid (HK6.out.then k7)
              clear k7
              go_wp2_with fail
              refine (HAL _).out.mono ?_
              rintro e w8 ⟨rfl, k8⟩
              have HK8 := Lib.hid (HK1.out.then (HK7.out.then k8))
              clear k8
              go_wp2
              go_ret
              exact ⟨rfl, HK8.out⟩
    · go_wp2
      go_ret
      exact ⟨rfl, k1⟩
end Go.Proofs.Ytoepkhkaifgddaa
