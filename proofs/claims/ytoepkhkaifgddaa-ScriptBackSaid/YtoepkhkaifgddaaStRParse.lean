/- The steps of a text: the document's Parse; walked. Condition: the text is no longer than a million bytes. -/
import Derived.Test.YtoepkhkaifgddaaStRRead
import Derived.Test.YtoepkhkaifgddaaStParseW
namespace Go.Proofs.Ytoepkhkaifgddaa
open Go.RowKit

theorem own_one' {W : World} {b : Nat} {st : Stp} {vs vw : Value} (hs : W.ownsRow b 85 3 vs st.secs.length (st.secs.flatMap sctCells)) (hw : W.ownsRow b 77 1 vw st.words.length (u32s st.words)) : ∀ y, y ∈ ownCells st vs vw → y.oneCell' = true := by
  obtain ⟨A1, c1, e1⟩ := own_shape hs
  obtain ⟨A2, c2, e2⟩ := own_shape hw
  intro y hy
  simp [ownCells, e1, e2] at hy
  rcases hy with rfl | rfl | rfl | rfl | rfl <;> rfl
theorem lineT_size {s p : ByteArray} (h : p ∈ linesT s) : p.size ≤ s.size := by
  have h2 := linesS_eq s s.size 0
  rw [ByteArray.extract_zero_size] at h2
  unfold linesT at h
  rw [h2] at h
  exact linesK_size s _ _ _ h

set_option maxRecDepth 100000 in
set_option maxHeartbeats 8000000 in
theorem rparse_any (s : ByteArray) (w : World) (hs : s.size ≤ 1000000) :
    Calls Try.prog 30 #[.string s] w (ParsePost w (parseS s)) := by
  by_cases hbig : 65536 < s.size
  · have hq : decide ((65536 : Int) < (s.size : Int)) = true := decide_eq_true (by omega)
    have hP : Hid (parseS s = ([], 0, 340)) := if_pos hbig
    clear hbig
    go_enter Try.func30, Try.ntmps30
    go_wp2
    go_ret3
    rw [hP.out]
    exact ⟨none, 0, [], rfl, rfl, OwnSteps.nil _ _, Keep.refl _ _⟩
  · have hq : decide ((65536 : Int) < (s.size : Int)) = false := decide_eq_false (by omega)
    have HL := fun W => Lib.hid (rlines_any s W hs)
    have hlen : (linesT s).length ≤ s.size + 1 := linesT_len s
    have hsz : ∀ p ∈ linesT s, p.size ≤ 1000000 := fun p hp => by have := lineT_size hp; omega
    have hP0 : Hid (parseS s = match psFold [] (number 1 (linesT s)) with | .ok l => (l, 0, 0) | .error n => ([], n, 340)) := if_neg hbig
    generalize linesT s = Ls at *
    clear hbig
    go_enter Try.func30, Try.ntmps30
    go_wp2_with fail
    refine (HL _).out.mono ?_
    rintro e w1 ⟨A, c, rfl, hrow, k1⟩
    have hrd : 0 < Ls.length → ∃ b o, A = some ⟨b, o, none⟩ ∧ b < w1.heap.size ∧ ∀ j, (h : j < Ls.length) → w1.cell? ⟨b, o + j, none⟩ = some (.string Ls[j]) := fun h0 => by
      obtain ⟨b, o, e, hb, hc⟩ := (Reads.of_own hrow).addr h0
      exact ⟨b, o, e, hb, fun j h => hc j _ (by simp [strs, h])⟩
    have HK1 := Lib.hid k1
    have HRD := Lib.hid hrd
    clear hrow k1 hrd HL
    have hll : Ls.length ≤ 1000001 := by omega
    go_wp2
    go_loopw [7, 5] (fun v7 v5 wr => ∃ (k : Nat) (acc : List Stp) (ms : List (Stp × StpV)), k ≤ Ls.length ∧ v7 = .int .i64 (k : Int) ∧ psFold [] (number 1 Ls) = psFold acc (number (1 + k) (Ls.drop k)) ∧ acc = ms.map (·.1) ∧ acc.length ≤ 512 ∧ OwnSteps wr w1.heap.size v5 ms ∧ Keep [] w1 wr) (fun v7 _ _ => Ls.length - (intOf v7).toNat)
    case atStart => exact ⟨0, [], [], Nat.zero_le _, rfl, rfl, rfl, by decide, OwnSteps.nil _ _, Keep.refl _ _⟩
    case round =>
      obtain ⟨k, acc, ms, hk, rfl, heq, hacc, hal, hO, hkw⟩ := hrel
      have HEQ := Lib.hid heq
      have HO := Lib.hid hO
      have HKW := Lib.hid hkw
      have HACC := Lib.hid hacc
      have hml : ms.length ≤ 512 := by rw [hacc] at hal; simpa using hal
      obtain ⟨VA, vc, rfl⟩ := own_shape hO.row
      clear heq hO hkw hacc
      by_cases hlt : k < Ls.length
      · obtain ⟨lb, lo, hA, hlb, hlc⟩ := HRD.out (by omega)
        have hcell := (HKW.out.cell (p := ⟨lb, lo + k, none⟩) hlb (by simp)).trans (hlc k hlt)
        have hdrop : Hid (number (1 + k) (Ls.drop k) = (((1 + k : Nat) : Int), Ls[k]) :: number (1 + (k + 1)) (Ls.drop (k + 1))) := by
          show _ = _
          rw [List.drop_eq_getElem_cons hlt]
          rfl
        have hqz := hsz Ls[k] (List.getElem_mem hlt)
        have hp0 : (0 : Int) ≤ (k : Int) := by omega
        have hp1 : (k : Int) < (Ls.length : Int) := by omega
        have HE2 : Hid (psFold [] (number 1 Ls) = (psStep acc (((1 + k : Nat) : Int), Ls[k])).bind (fun a => psFold a (number (1 + (k + 1)) (Ls.drop (k + 1))))) := by
          show _ = _
          rw [HEQ.out, hdrop.out]
          rfl
        generalize Ls[k] = q at *
        have HPq := fun W => Lib.hid (rpieces_any q W hqz)
        have HRq := fun W => Lib.hid (rrd_any q W hqz)
        rw [← readS_eq] at HRq
        obtain ⟨hrs, hrw, hro⟩ := readS_ok q
        rw [hA]
        have HA := Lib.hid hA
        clear hlc hdrop HEQ hA
        go_wp2_with fail
        refine (HPq _).out.mono ?_
        rintro e w2 ⟨A2, c2, rfl, _, k2⟩
        have HK12 := Lib.hid (HKW.out.then k2)
        by_cases hpn : piecesOf q = []
        · have hz : (((piecesOf q).length : Int) == 0) = true := by rw [hpn]; rfl
          have hE := Lib.hid (HE2.out.trans (by rw [psStep_nil hpn]; rfl : _ = psFold acc (number (1 + (k + 1)) (Ls.drop (k + 1)))))
          have HO2 := Lib.hid (HO.out.keep0 k2)
          generalize (piecesOf q).length = pn at *
          clear hpn k2
          go_wp2
          go_roundw
          case rel => exact ⟨k + 1, acc, ms, by omega, by go_num, hE.out, HACC.out, hal, HO2.out, HK12.out⟩
          case measure => simp [intOf]; omega
        · have hz : (((piecesOf q).length : Int) == 0) = false := by
            rw [beq_eq_false_iff_ne]
            intro h
            exact hpn (List.length_eq_zero_iff.1 (by omega))
          have HBAD := fun h => Lib.hid (psStep_bad (acc := acc) (x := (((1 + k : Nat) : Int), q)) hpn h)
          have HGOOD := fun h h' => Lib.hid (psStep_good (acc := acc) (x := (((1 + k : Nat) : Int), q)) hpn h h')
          have hcell2 := (k2.cell (p := ⟨lb, lo + k, none⟩) (Nat.lt_of_lt_of_le hlb HKW.out.size) (by simp)).trans hcell
          have HO2 := Lib.hid (HO.out.keep0 k2)
          generalize (piecesOf q).length = pn at *
          dsimp only at HBAD HGOOD
          generalize readS q = r at *
          obtain ⟨r1, r2⟩ := r
          dsimp only at hrs hrw hro HBAD HGOOD
          clear hpn k2 hcell
          go_wp2_with (first
            | (refine (HRq _).out.mono ?_; rintro e w3 ⟨st, vs, vw, rfl, hst, hs3, hw3, k3⟩)
            | (refine stop_store 45 (.tmp 8) (.tmp 34) rfl ?_))
          constructor
          refine wpList_store_all rfl 45 (.tmp 8) (.tmp 34) rfl rfl rfl (vs := ownCells st vs vw) agg_step.2 (Blk.new _ _ _) (own_one' hs3 hw3) rfl ?_
          intro w4 d4 k4
          have kr4 : Keep [] w3 w4 := ((Keep.refl [] w3).alloc _).trans k4 (fun y hy h => by simp at hy h; omega)
          have hz2 : w1.heap.size ≤ w2.heap.size := HK12.out.size
          have HO4 := Lib.hid (HO2.out.keep0 (k3.then kr4))
          have HK4 := Lib.hid (HK12.out.then (k3.then kr4))
          have HRet := Lib.hid (HK1.out.then HK4.out)
          have hs4 := own_base (own_keep0 hs3 kr4) hz2
          have hw4 := own_base (own_keep0 hw3 kr4) hz2
          have HS4 := Lib.hid hs4
          have HW4 := Lib.hid hw4
          have hd4 : CellsAt w4 w3.heap.size 0 (ownCells st vs vw) := d4.cellsAt
          have hone := own_one' hs3 hw3
          have hal2 : acc.length = ms.length := by rw [HACC.out]; simp
          clear k3 k4 kr4 d4 hs3 hw3 hs4 hw4
          by_cases hq512 : acc.length = 512
          · have hq1 : ((ms.length : Int) == 512) = true := by rw [beq_iff_eq]; omega
            have HPE : Hid (parseS s = ([], (((1 + k : Nat) : Int)), 340)) := by show _ = _; rw [hP0.out, HE2.out, (HBAD (.inr hq512)).out]; rfl
            clear HBAD HGOOD hq512 hal2
            cases r2
            all_goals
              go_wp2
              go_ret3
              rw [HPE.out]
              exact ⟨none, 0, [], rfl, by simp <;> omega, OwnSteps.nil _ _, HRet.out⟩
          · have hq1 : ((ms.length : Int) == 512) = false := by rw [beq_eq_false_iff_ne]; omega
            cases r2
            · have HPE : Hid (parseS s = ([], (((1 + k : Nat) : Int)), 340)) := by show _ = _; rw [hP0.out, HE2.out, (HBAD (.inl rfl)).out]; rfl
              clear HBAD HGOOD hq512 hal2
              go_wp2
              go_ret3
              rw [HPE.out]
              exact ⟨none, 0, [], rfl, by simp <;> omega, OwnSteps.nil _ _, HRet.out⟩
            · obtain rfl := hst rfl
              have hE := Lib.hid (HE2.out.trans (by rw [(HGOOD rfl hq512).out]; rfl : _ = psFold (acc ++ [st]) (number (1 + (k + 1)) (Ls.drop (k + 1)))))
              obtain ⟨sa, sc, rfl⟩ := own_shape HS4.out
              obtain ⟨wa, wc, rfl⟩ := own_shape HW4.out
              have hm : OStp w4 w1.heap.size (st, ⟨sa, sc, wa, wc⟩) := ⟨HS4.out, HW4.out, hro, by unfold maxLen; dsimp only; omega, by unfold maxLen; dsimp only; omega⟩
              have HM := Lib.hid hm
              have hrow4 := HO4.out.row
              have hB : w1.heap.size ≤ w4.heap.size := HK4.out.size
              have hd5 : CellsAt w4 w3.heap.size 0 [.int .i64 st.kind, .int .i64 st.a, .int .i64 st.n, .slice sa st.secs.length sc, .slice wa st.words.length wc] := hd4
              have hal3 : (acc ++ [st]).length ≤ 512 := by rw [List.length_append]; simp; omega
              clear HBAD HGOOD hd4 hm
              go_wp2_with (first
                | (refine wpList_load_agg rfl 45 (.tmp 8) rfl rfl (cs := [.int .i64 st.kind, .int .i64 st.a, .int .i64 st.n, .slice sa st.secs.length sc, .slice wa st.words.length wc]) agg_step hd5 ?_)
                | (at_builtin; refine wpList_append_one rfl (.tmp 45) (.tmp 47) 35 rfl slice_stp hrow4 rfl rfl (us := [.int .i64 st.kind, .int .i64 st.a, .int .i64 st.n, .slice sa st.secs.length sc, .slice wa st.words.length wc]) rfl (by simp [Value.oneCell']) hB (by omega) (by unfold maxLen; omega) ?_; intro v' w5 hown5 k5 hat5; obtain ⟨A', c', rfl⟩ := own_shape hown5))
              have HO5 := Lib.hid (HO4.out.app HM.out k5 hown5)
              have HK5 := Lib.hid (HK4.out.trans k5 (fun y hy hlt => by have := row_base HO4.out.row y hy; omega))
              clear hown5 k5 hat5
              go_roundw
              case rel => exact ⟨k + 1, acc ++ [st], ms ++ [(st, ⟨sa, sc, wa, wc⟩)], by omega, by go_num, hE.out, by rw [List.map_append, ← HACC.out]; rfl, hal3, HO5.out, HK5.out⟩
              case measure => simp [intOf]; omega
      · have hE : Hid (parseS s = (acc, 0, 0)) := by
          show _ = _
          rw [hP0.out, HEQ.out, List.drop_eq_nil_iff.2 (by omega)]
          rfl
        have HRet := Lib.hid (HK1.out.then HKW.out)
        have hkl : k = Ls.length := by omega
        subst hkl
        clear hlt hk
        go_wp2
        go_ret3
        rw [hE.out]
        exact ⟨VA, vc, ms, HACC.out, rfl, HO.out.base HK1.out.size, HRet.out⟩
end Go.Proofs.Ytoepkhkaifgddaa
