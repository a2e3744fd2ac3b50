/- The document's line of an image, whatever it is; and its Parse: the image of a text. Condition: texts of at most a million bytes. The statement SourceReads, walked for any text. No other condition. -/
import Derived.Test.YtoepkhkaifgddaaSrcRx
import Derived.Test.YtoepkhkaifgddaaDigRef
import Derived.Test.YtoepkhkaifgddaaImgRS
namespace Go.Proofs.Ytoepkhkaifgddaa
open Go.RowKit

theorem rline_any (b bp op cc : Nat) (x : Img) (vt vm ve : Value) (ms : List (Mdd × Option Addr × Nat)) (ps : List ByteArray) (first : Bool) (w : World) (hO : OwnImg w b x vt vm ve ms) (hb : b ≤ w.heap.size) (h : Reads w 1 (some ⟨bp, op, none⟩) ps.length (strs ps)) (hl : ps.length ≤ 1000001) (hcap : ps.length ≤ cc) (hz : ∀ p ∈ ps, p.size ≤ 1000000) (hxl : ImgLe x 1000000) (h0 : 0 < ps.length) :
    Calls Try.prog 36 #[.agg #[.int .i64 x.res, vt, vm, ve], .slice (some ⟨bp, op, none⟩) ps.length cc, .bool first] w (RLine w b (lineP x ps first)) := by
  cases first
  · by_cases h1 : bytesOf ps[0] = wRes
    · exact rline_resA b bp op cc x vt vm ve ms ps w hO h hl hcap hz h0 h1
    by_cases h2 : bytesOf ps[0] = wTask
    · exact rline_task b bp op cc x vt vm ve ms ps w hO hb h hl hcap hz hxl h0 h2
    by_cases h3 : bytesOf ps[0] = wMode
    · exact rline_mode b bp op cc x vt vm ve ms ps w hO hb h hl hcap hz hxl h0 h3
    by_cases h4 : bytesOf ps[0] = wEdge
    · exact rline_edge b bp op cc x vt vm ve ms ps w hO hb h hl hcap hz hxl h0 h4
    by_cases h5 : bytesOf ps[0] = wQueue
    · by_cases hno : ps.length ≠ 3 ∨ x.modes = [] ∨ wordP polW (ps.getD 2 { data := #[] }) = 0
      · exact rline_queue_no b bp op cc x vt vm ve ms ps w hO h hl hcap hz h0 h5 hno
      · have g3 : ps.length = 3 := Decidable.byContradiction fun g => hno (.inl g)
        have gm : x.modes ≠ [] := fun g => hno (.inr (.inl g))
        have gw : wordP polW (ps.getD 2 { data := #[] }) ≠ 0 := fun g => hno (.inr (.inr g))
        cases hn : numP ps 1 with
        | none => exact rline_queue_bad b bp op cc x vt vm ve ms ps w hO h hl hcap hz h0 h5 g3 gm gw hn
        | some n => exact rline_queue_yes b bp op cc x vt vm ve ms ps w hO h hl hcap hz h0 h5 g3 gm gw n hn hb hxl
    · exact rline_none b bp op cc x vt vm ve ms ps w hO h hl hcap hz h0 ⟨h1, h2, h3, h4, h5⟩
  · by_cases h1 : bytesOf ps[0] = wRes
    · exact rline_resC b bp op cc x vt vm ve ms ps w hO h hl hcap hz h0 h1
    · exact rline_resB b bp op cc x vt vm ve ms ps w hO h hl hcap hz h0 h1
theorem results_cell_tmp2S {P : Program} {w : World} {fn : Func} {p q r : Tmp} {ty : TypeId} (h : fn.results = #[.cell p ty, .tmp q, .tmp r]) (tmps : Array Value) {g t : Nat} {vs : List Value} {v u : Value} (hp : tmps.getD p undef = .pointer (some ⟨g, 0, none⟩)) (hq : tmps.getD q undef = v) (hr : tmps.getD r undef = u)
    (hb : Blk w g t vs.toArray) (hA : AggOf P ty vs.length) : (results fn tmps).run P w = .ok (.tuple #[.agg vs.toArray, v, u]) w := by
  have hp' : tmps[p]?.getD undef = .pointer (some ⟨g, 0, none⟩) := by simpa using hp
  have hq' : tmps[q]?.getD undef = v := by simpa using hq
  have hr' : tmps[r]?.getD undef = u := by simpa using hr
  have hc : CellsAt w g 0 vs := fun j u hu => by rw [Nat.zero_add, hb.cell]; simpa using hu
  simp [results, h, hp', hq', hr', asAddr, run_loadVar_agg hA hc]
theorem srStep_nil {st : Img × Bool} {x : NumStr} (h : piecesOf x.2 = []) : srStep st x = .ok st := by unfold srStep; rw [if_pos h]
theorem srStep_one {st : Img × Bool} {x : NumStr} (h : piecesOf x.2 ≠ []) : srStep st x = match lineP st.1 (piecesOf x.2) st.2 with | some y => .ok (y, false) | none => .error x.1 := by unfold srStep; rw [if_neg h]; cases lineP st.1 (piecesOf x.2) st.2 <;> rfl
theorem lineT_sizeS {s p : ByteArray} (h : p ∈ linesT s) : p.size ≤ s.size := by
  have h2 := linesS_eq s s.size 0
  rw [ByteArray.extract_zero_size] at h2
  unfold linesT at h
  rw [h2] at h
  exact linesK_size s _ _ _ h
/-- A row of texts of the call's own, with room for all of it. -/
theorem ret_cap {w0 w : World} {A : Option Addr} {n c : Nat} {l : List ByteArray} (h : w.ownsRow w0.heap.size 9 1 (.slice A n c) l.length (strs l)) (h0 : 0 < l.length) : ∃ bp, A = some ⟨bp, 0, none⟩ ∧ n = l.length ∧ l.length ≤ c := by
  rcases h.2 with ⟨_, h1⟩ | ⟨g, cap, cur, hv, _, _, h1, _⟩
  · omega
  · injection hv with e1 e2 e3
    exact ⟨g, e1, e2, by omega⟩

set_option maxRecDepth 100000 in
set_option maxHeartbeats 8000000 in
theorem rparse_any12 (s : ByteArray) (w : World) (hs : s.size ≤ 900000) :
    Calls Try.prog 11 #[.string s] w (SrcPost w (srcP s)) := by
  by_cases hbig : 65536 < s.size
  · have hq : decide ((65536 : Int) < (s.size : Int)) = true := decide_eq_true (by omega)
    have hP : Hid (srcP s = (img0, 0, 120)) := if_pos hbig
    clear hbig
    go_enter Try.func11, Try.ntmps11
    go_wp2_with (refine stop_store 26 (.tmp 2) (.tmp 14) rfl ?_)
    constructor
    refine wpList_store_all rfl 26 (.tmp 2) (.tmp 14) rfl rfl rfl (vs := zImg) agg_image.2 (Blk.new _ _ _) (by intro u hu; simp at hu; rcases hu with rfl | rfl <;> rfl) rfl ?_
    intro w4 d4 k4
    have kr4 : Keep [] w w4 := ((Keep.refl [] w).alloc _).trans k4 (fun y hy h => by simp at hy h; omega)
    go_wp2
    refine bodyPost_ret (results_cell_tmp2S rfl _ rfl rfl rfl d4 agg_image) rfl ?_
    rw [hP.out]
    exact ⟨_, _, _, [], rfl, OwnImg.nil _ _ 0, kr4⟩
  · have hq : decide ((65536 : Int) < (s.size : Int)) = false := decide_eq_false (by omega)
    have HL := fun W => Lib.hid (rlines_any s W (by omega))
    have hlen : (linesT s).length ≤ s.size + 1 := linesT_len s
    have hsz : ∀ p ∈ linesT s, p.size ≤ 900000 := fun p hp => by have := lineT_sizeS hp; omega
    have hP0 : Hid (srcP s = match srFold (img0, true) (number 1 (linesT s)) with
      | .ok (x, false) => (x, 0, 0)
      | .ok (_, true) => (img0, 0, 120)
      | .error n => (img0, n, 120)) := if_neg hbig
    generalize linesT s = Ls at *
    clear hbig
    go_enter Try.func11, Try.ntmps11
    go_wp2_with (refine stop_store 26 (.tmp 5) (.tmp 15) rfl ?_)
    constructor
    have hB2 := (Blk.new w 26 zImg.toArray).alloc (.cells #[.int .i64 0, .slice none 0 0, .slice none 0 0, .slice none 0 0] 26)
    have KA : Keep [] w ((w.alloc (.cells #[.int .i64 0, .slice none 0 0, .slice none 0 0, .slice none 0 0] 26)).alloc (.cells #[.int .i64 0, .slice none 0 0, .slice none 0 0, .slice none 0 0] 26)) := ((Keep.refl [] w).alloc _).alloc _
    have hz1 : (w.alloc (.cells #[.int .i64 0, .slice none 0 0, .slice none 0 0, .slice none 0 0] 26)).heap.size = w.heap.size + 1 := by simp
    have hBn := Blk.new (w.alloc (.cells #[.int .i64 0, .slice none 0 0, .slice none 0 0, .slice none 0 0] 26)) 26 #[.int .i64 0, .slice none 0 0, .slice none 0 0, .slice none 0 0]
    rw [hz1] at hBn
    refine wpList_store_all rfl 26 (.tmp 5) (.tmp 15) rfl rfl rfl (vs := zImg) agg_image.2 hBn (by intro u hu; simp at hu; rcases hu with rfl | rfl <;> rfl) rfl ?_
    intro w4 d4 k4
    have hB4 := hB2.keep k4 (by simp)
    have K4 : Keep [] w w4 := KA.trans k4 (fun y hy h => by simp at hy; omega)
    clear hB2 KA k4 hz1 hBn
    go_wp2_with fail
    refine (HL _).out.mono ?_
    rintro e w1 ⟨A, c, rfl, hrow, k1⟩
    have hrd : 0 < Ls.length → ∃ b o, A = some ⟨b, o, none⟩ ∧ b < w1.heap.size ∧ b ≠ w.heap.size + 1 ∧ ∀ j, (h : j < Ls.length) → w1.cell? ⟨b, o + j, none⟩ = some (.string Ls[j]) := fun h0 => by
      obtain ⟨b, o, e, hb, hc⟩ := (Reads.of_own hrow).addr h0
      refine ⟨b, o, e, hb, fun hbe => ?_, fun j h => hc j _ (by simp [strs, h])⟩
      have := row_base hrow b (by rw [e]; simp [Value.ownBlock])
      have := d4.lt
      omega
    have hd1 := d4.keep0 k1
    have hB1 := hB4.keep0 k1
    have HB1 := Lib.hid hB1
    have HK1 := Lib.hid (K4.then k1)
    have HRD := Lib.hid hrd
    have hR1 := hd1.lt
    have HR1 := Lib.hid hR1
    clear hrow k1 hrd HL d4 hB4 K4 hB1 hR1
    have hll : Ls.length ≤ 1000001 := by omega
    obtain ⟨R, hR⟩ : ∃ R, w.heap.size + 1 = R := ⟨_, rfl⟩
    obtain ⟨R0, hR0⟩ : ∃ R0, w.heap.size = R0 := ⟨_, rfl⟩
    have HRR : Hid (R0 < R ∧ R0 = w.heap.size ∧ R = w.heap.size + 1) := ⟨by omega, by omega, by omega⟩
    rw [hR] at hd1 HR1 HRD ⊢
    rw [hR0] at HB1 ⊢
    clear hR hR0
    go_wp2
    go_loopw [9, 7, 8] (fun v9 v7 v8 wr => ∃ (k : Nat) (x : Img) (f : Bool) (vt vm ve : Value) (ms : List (Mdd × Option Addr × Nat)), k ≤ Ls.length ∧ v9 = .int .i64 (k : Int) ∧ v7 = .bool f ∧ v8 = .bool true ∧ srFold (img0, true) (number 1 Ls) = srFold (x, f) (number (1 + k) (Ls.drop k)) ∧ ImgLe x k ∧ OwnImg wr w1.heap.size x vt vm ve ms ∧ Blk wr R 26 #[.int .i64 x.res, vt, vm, ve] ∧ Keep [R] w1 wr) (fun v9 _ _ _ => Ls.length - (intOf v9).toNat)
    case atStart => exact ⟨0, img0, true, _, _, _, [], Nat.zero_le _, rfl, rfl, rfl, rfl, ⟨Nat.le_refl _, Nat.le_refl _, Nat.le_refl _, fun _ h => (by cases h)⟩, OwnImg.nil _ _ 0, hd1, Keep.refl _ _⟩
    case round =>
      obtain ⟨k, x, f, vt, vm, ve, ms, hk, rfl, rfl, rfl, heq, hxl, hO, hd, hkw⟩ := hrel
      have HEQ := Lib.hid heq
      have HO := Lib.hid hO
      have HKW := Lib.hid hkw
      have HD := Lib.hid hd
      have HXL : Hid (ImgLe x 1000000) := hxl.mono (by omega)
      have HXK := Lib.hid hxl
      clear heq hO hkw hd hd1 hxl
      by_cases hlt : k < Ls.length
      · obtain ⟨lb, lo, hA, hlb, hne, hlc⟩ := HRD.out (by omega)
        have hcell := (HKW.out.cell (p := ⟨lb, lo + k, none⟩) hlb (by simp; exact hne)).trans (hlc k hlt)
        have hdrop : Hid (number (1 + k) (Ls.drop k) = (((1 + k : Nat) : Int), Ls[k]) :: number (1 + (k + 1)) (Ls.drop (k + 1))) := by
          show _ = _
          rw [List.drop_eq_getElem_cons hlt]
          rfl
        have hqz := hsz Ls[k] (List.getElem_mem hlt)
        have hp0 : (0 : Int) ≤ (k : Int) := by omega
        have hp1 : (k : Int) < (Ls.length : Int) := by omega
        have HE2 : Hid (srFold (img0, true) (number 1 Ls) = (srStep (x, f) (((1 + k : Nat) : Int), Ls[k])).bind (fun a => srFold a (number (1 + (k + 1)) (Ls.drop (k + 1))))) := by
          show _ = _
          rw [HEQ.out, hdrop.out]
          rfl
        generalize Ls[k] = q at *
        have HPq := fun W => Lib.hid (rpieces_any q W (by omega))
        rw [hA]
        have HA := Lib.hid hA
        clear hlc hdrop HEQ hA
        go_wp2_with fail
        refine (HPq _).out.mono ?_
        rintro e w2 ⟨A2, c2, rfl, hrow2, k2⟩
        have HK12 := Lib.hid (HKW.out.then k2)
        by_cases hpn : piecesOf q = []
        · have hz : (((piecesOf q).length : Int) == 0) = true := by rw [hpn]; rfl
          have hE := Lib.hid (HE2.out.trans (by rw [srStep_nil hpn]; rfl : _ = srFold (x, f) (number (1 + (k + 1)) (Ls.drop (k + 1)))))
          have HO2 := Lib.hid (HO.out.keep0 k2)
          have HD2 := Lib.hid (HD.out.keep0 k2)
          generalize (piecesOf q).length = pn at *
          clear hpn k2 hrow2
          go_wp2
          go_roundw
          case rel => exact ⟨k + 1, x, f, vt, vm, ve, ms, by omega, by go_num, rfl, rfl, hE.out, HXK.out.mono (by omega), HO2.out, HD2.out, HK12.out⟩
          case measure => simp [intOf]; omega
        · have hz : (((piecesOf q).length : Int) == 0) = false := by
            rw [beq_eq_false_iff_ne]
            intro h
            exact hpn (List.length_eq_zero_iff.1 (by omega))
          have hpos : 0 < (piecesOf q).length := List.length_pos_iff.2 hpn
          obtain ⟨bp, rfl, hcl, hcap⟩ := ret_cap hrow2 hpos
          have HST := Lib.hid (srStep_one (st := (x, f)) (x := (((1 + k : Nat) : Int), q)) hpn)
          have hb2 : w1.heap.size ≤ w2.heap.size := HK12.out.size
          have HLN := Lib.hid (rline_any w1.heap.size bp 0 c2 x vt vm ve ms (piecesOf q) f w2 (HO.out.keep0 k2) hb2 (Reads.of_own hrow2) (by have := (scan_le q (q.size + 1)).1; unfold piecesOf; omega) hcap (fun p hp => by have := piece_size12 hp; omega) HXL.out hpos)
          have hd2 := HD.out.keep0 k2
          have hbR : HR1.out = HR1.out := rfl
          have HB2 := Lib.hid ((HB1.out.keep HKW.out (by have := HRR.out.1; simp; omega)).keep0 k2)
          dsimp only at HST
          obtain ⟨r, hr⟩ : ∃ r, lineP x (piecesOf q) f = r := ⟨_, rfl⟩
          have HLE : Hid (∀ y, r = some y → ImgLe y (k + 1)) := fun y hy => lineP_le HXK.out (hr.trans hy)
          rw [hr] at HLN HST
          clear hr
          generalize (piecesOf q).length = pn at *
          clear hpn k2 hcell hrow2 hbR
          go_wp2_with (first
            | (refine wpList_load_agg rfl 26 (.tmp 5) rfl rfl (cs := [.int .i64 x.res, vt, vm, ve]) agg_image hd2.cellsAt ?_)
            | (refine HLN.out.mono ?_; rintro e w3 ⟨il, ok, rfl, hil, hone, hok, hch, hown⟩)
            | (refine stop_store 26 (.tmp 5) (.tmp 37) rfl ?_))
          constructor
          have hd3 : Blk w3 R 26 #[.int .i64 x.res, vt, vm, ve] := hch.blk hd2 (by have := hd2.lt; omega) (by decide)
          have hB3 := hch.blk HB2.out (by have := HB2.out.lt; omega) (by decide)
          have HIL := Lib.hid hil
          have HON := Lib.hid hone
          refine wpList_store_all rfl 26 (.tmp 5) (.tmp 37) rfl rfl rfl (vs := il) (by rw [HIL.out]; exact agg_image.2) hd3 hone (by rw [HIL.out]; rfl) ?_
          intro w5 d5 k5
          have HOK := Lib.hid hok
          have HOW := Lib.hid hown
          have hk3 : Keep [R] w1 w3 := ⟨hch.os.trans HK12.out.os, hch.tape.trans HK12.out.tape, hch.output.trans HK12.out.output, Nat.le_trans HK12.out.size hch.size, fun g hg hn => (hch.same g (by have := HK12.out.size; omega) (by have := HK12.out.size; omega) (.inl hg)).trans (HK12.out.block g hg hn)⟩
          have HK5 := Lib.hid (hk3.trans k5 (fun y hy _ => hy))
          have HB5 := Lib.hid (hB3.keep k5 (by have := HRR.out.1; simp; omega))
          have HD5 := Lib.hid d5
          have HKE : Hid (∀ {y : Img} {vt vm ve : Value} {ms : List (Mdd × Option Addr × Nat)}, OwnImg w3 w1.heap.size y vt vm ve ms → OwnImg w5 w1.heap.size y vt vm ve ms) := fun ho => ho.keep k5 (fun g hg cs t fr e => by
            simp at hg
            rw [hg, show w3.heap[R]? = _ from hd3] at e
            cases e
            decide)
          have hW : IntKind.i64.wrap ((k : Int) + 1) = (k : Int) + 1 := IntWalk.i64_in _ (by omega)
          have HKK : Hid (∀ W, Keep [R0] w5 W → Keep [] w W) := fun W hk => (HK1.out.trans HK5.out (fun g hg hlt => by have := HRR.out.2.2; simp at hg; omega)).trans hk (fun g hg hlt => by have := HRR.out.2.1; simp at hg; omega)
          clear hch hown hok hd3 hB3 hk3 k5 d5 hil hone hd2
          cases r with
          | none =>
            have hok2 := HOK.out
            simp only [Option.isSome_none] at hok2
            subst hok2
            have hP : Hid (srcP s = (img0, (k : Int) + 1, 120)) := by
              show _ = _
              rw [hP0.out, HE2.out, HST.out]
              show (img0, ((1 + k : Nat) : Int), (120 : Int)) = _
              rw [show ((1 + k : Nat) : Int) = (k : Int) + 1 by omega]
            clear HST HE2 HOW HKE hP0
            go_wp2_with (refine stop_store 26 (.tmp 2) (.tmp 41) rfl ?_)
            constructor
            refine wpList_store_all rfl 26 (.tmp 2) (.tmp 41) rfl rfl rfl (vs := zImg) agg_image.2 HB5.out (by intro u hu; simp at hu; rcases hu with rfl | rfl <;> rfl) rfl ?_
            intro w6 d6 k6
            go_wp2
            refine bodyPost_ret (results_cell_tmp2S rfl _ rfl rfl rfl d6 agg_image) rfl ?_
            rw [hP.out]
            exact ⟨_, _, _, [], rfl, OwnImg.nil _ _ 0, HKK.out _ k6⟩
          | some y =>
            have hok2 := HOK.out
            simp only [Option.isSome_some] at hok2
            subst hok2
            obtain ⟨vt', vm', ve', ms', hil', ho'⟩ := HOW.out y rfl
            have hE := Lib.hid (HE2.out.trans (by rw [HST.out]; rfl : _ = srFold (y, false) (number (1 + (k + 1)) (Ls.drop (k + 1)))))
            have HO' := Lib.hid (HKE.out ho')
            have HXY : Hid (ImgLe y (k + 1)) := HLE.out y rfl
            subst hil'
            clear HST HE2 HOW HKE ho'
            go_wp2
            go_roundw
            case rel => exact ⟨k + 1, y, false, vt', vm', ve', ms', by omega, by go_num, rfl, rfl, hE.out, HXY.out, HO'.out, HD5.out, HK5.out⟩
            case measure => simp [intOf]; omega
      · have hE : Hid (srcP s = if f = true then (img0, 0, 120) else (x, 0, 0)) := by
          show _ = _
          rw [hP0.out, HEQ.out, List.drop_eq_nil_iff.2 (by omega)]
          cases f <;> rfl
        have hB5 := HB1.out.keep HKW.out (by have := HRR.out.1; simp; omega)
        have hkl : k = Ls.length := by omega
        have HKK : Hid (∀ W, Keep [R0] wr W → Keep [] w W) := fun W hk => (HK1.out.trans HKW.out (fun g hg hlt => by have := HRR.out.2.2; simp at hg; omega)).trans hk (fun g hg hlt => by have := HRR.out.2.1; simp at hg; omega)
        subst hkl
        clear hlt hk
        cases f
        · have hd2 := HD.out
          go_wp2_with (first
            | (refine wpList_load_agg rfl 26 (.tmp 5) rfl rfl (cs := [.int .i64 x.res, vt, vm, ve]) agg_image hd2.cellsAt ?_)
            | (refine stop_store 26 (.tmp 2) (.tmp 46) rfl ?_))
          constructor
          refine wpList_store_all rfl 26 (.tmp 2) (.tmp 46) rfl rfl rfl (vs := [.int .i64 x.res, vt, vm, ve]) agg_image.2 hB5 (HO.out.one x.res) rfl ?_
          intro w6 d6 k6
          go_wp2
          refine bodyPost_ret (results_cell_tmp2S rfl _ rfl rfl rfl d6 agg_image) rfl ?_
          rw [hE.out]
          refine ⟨vt, vm, ve, ms, rfl, (HO.out.keep k6 (fun g hg cs t fr e => ?_)).base HK1.out.size, HKK.out _ k6⟩
          simp at hg
          rw [hg, show wr.heap[R0]? = _ from hB5] at e
          cases e
          decide
        · go_wp2_with (refine stop_store 26 (.tmp 2) (.tmp 45) rfl ?_)
          constructor
          refine wpList_store_all rfl 26 (.tmp 2) (.tmp 45) rfl rfl rfl (vs := zImg) agg_image.2 hB5 (by intro u hu; simp at hu; rcases hu with rfl | rfl <;> rfl) rfl ?_
          intro w6 d6 k6
          go_wp2
          refine bodyPost_ret (results_cell_tmp2S rfl _ rfl rfl rfl d6 agg_image) rfl ?_
          rw [hE.out]
          exact ⟨_, _, _, [], rfl, OwnImg.nil _ _ 0, HKK.out _ k6⟩
end Go.Proofs.Ytoepkhkaifgddaa

namespace Go.Proofs.Ytoepkhkaifgddaa
open Go.RowKit

/-- An image's cells, whatever they are. -/
structure Kr (w : World) (x : Img) (il : List Value) : Prop where
  len : il.length = 4
  one : ∀ y, y ∈ il → y.oneCell' = true
  at_ : ∃ v, il = imgCells v x ∧ ImgAt w v x
theorem Kr.keep0 {w w' : World} {x : Img} {il : List Value} (h : Kr w x il) (k : Keep [] w w') : Kr w' x il := by
  obtain ⟨v, e, ha⟩ := h.at_
  exact ⟨h.len, h.one, v, e, ha.keep0 k⟩
theorem same_kr {w : World} {x y : Img} {il jl : List Value} (h : Kr w x il) (h' : Kr w y jl) : Calls Try.prog 12 #[.agg il.toArray, .agg jl.toArray] w fun e w' => e = .returned (.bool (decide (x = y))) ∧ Keep [] w w' := by
  obtain ⟨v, rfl, ha⟩ := h.at_
  obtain ⟨v', rfl, ha'⟩ := h'.at_
  exact rsame_any v v' x y w ha ha'
theorem kr_post {w w' : World} {r : Img × Int × Int} {e : Ending} (h : SrcPost w r e w') : ∃ il, e = .returned (.tuple #[.agg il.toArray, .int .i64 r.2.1, .int .i64 r.2.2]) ∧ Kr w' r.1 il ∧ Keep [] w w' := by
  obtain ⟨vt, vm, ve, ms, rfl, hO, hk⟩ := h
  obtain ⟨ta, tc, rfl⟩ := own_shape hO.tasks
  obtain ⟨ma, mc, rfl⟩ := own_shape hO.modes
  obtain ⟨ea, ec, rfl⟩ := own_shape hO.edges
  exact ⟨_, rfl, ⟨rfl, fun y hy => by simp at hy; rcases hy with rfl | rfl | rfl | rfl <;> rfl, ⟨ta, tc, ma, mc, ea, ec, ms.map (·.2)⟩, rfl, hO.at_.2.2.2⟩, hk⟩

set_option maxRecDepth 100000 in
set_option maxHeartbeats 4000000 in
theorem sourceReads_any (s : ByteArray) (w : World) :
    Calls Try.prog 3 #[.string s] w fun e w' => e = .returned (.bool true) ∧ Keep [] w w' := by
  by_cases hbig : 5000 < s.size
  · have hq : decide ((5000 : Int) < (s.size : Int)) = true := decide_eq_true (by omega)
    clear hbig
    go_enter Try.func3, Try.ntmps3
    go_wp2
    go_ret
    exact ⟨rfl, Keep.refl _ _⟩
  · have hq : decide ((5000 : Int) < (s.size : Int)) = false := decide_eq_false (by omega)
    have HPS : ∀ W, Hid (Calls Try.prog 10 #[.string s] W fun e w' => ∃ il, e = .returned (.tuple #[.agg il.toArray, .int .i64 (srcP s).2.1, .int .i64 (srcP s).2.2]) ∧ Kr w' (srcP s).1 il ∧ Keep [] W w') := fun W => (sparse_any12 s W (by omega)).mono fun e w' h => kr_post h
    have HPR : ∀ W, Hid (Calls Try.prog 11 #[.string s] W fun e w' => ∃ il, e = .returned (.tuple #[.agg il.toArray, .int .i64 (srcP s).2.1, .int .i64 (srcP s).2.2]) ∧ Kr w' (srcP s).1 il ∧ Keep [] W w') := fun W => (rparse_any12 s W (by omega)).mono fun e w' h => kr_post h
    have HA := fun W => Lib.hid (alive12_any W)
    obtain ⟨yz, hyz⟩ : ∃ yz, srcP s = yz := ⟨_, rfl⟩
    rw [hyz] at HPS HPR
    clear hyz hbig
    obtain ⟨z, zl, ze⟩ := yz
    dsimp only at HPS HPR
    go_enter Try.func3, Try.ntmps3
    go_wp2_with (first
      | (refine (HPS _).out.mono ?_; clear HPS; rintro e wA ⟨il, rfl, hz, kA⟩)
      | (refine stop_store 26 (.tmp 3) (.tmp 15) rfl ?_))
    constructor
    refine wpList_store_all rfl 26 (.tmp 3) (.tmp 15) rfl rfl rfl (vs := il) (by rw [hz.len]; exact agg_image.2) (Blk.new _ _ _) hz.one (by rw [hz.len]; rfl) ?_
    intro wB dB kB
    have krB : Keep [] wA wB := ((Keep.refl [] wA).alloc _).trans kB (fun y hy h => by simp at hy h; omega)
    have KB := Lib.hid (kA.then krB)
    have HZ := Lib.hid (hz.keep0 krB)
    have HZL := Lib.hid hz.len
    have HDB := Lib.hid dB
    clear kA krB kB dB hz
    obtain ⟨gz, hgz⟩ : ∃ gz, wA.heap.size = gz := ⟨_, rfl⟩
    rw [hgz] at HDB ⊢
    clear hgz
    go_wp2_with (first
      | (refine (HPR _).out.mono ?_; clear HPR; rintro e wC ⟨jl, rfl, hy, kC⟩)
      | (refine stop_store 26 (.tmp 6) (.tmp 21) rfl ?_))
    constructor
    refine wpList_store_all rfl 26 (.tmp 6) (.tmp 21) rfl rfl rfl (vs := jl) (by rw [hy.len]; exact agg_image.2) (Blk.new _ _ _) hy.one (by rw [hy.len]; rfl) ?_
    intro wD dD kD
    have krD : Keep [] wC wD := ((Keep.refl [] wC).alloc _).trans kD (fun y hy h => by simp at hy h; omega)
    have KD := Lib.hid (KB.out.then (kC.then krD))
    have HY := Lib.hid (hy.keep0 krD)
    have HYL := Lib.hid hy.len
    have HZ2 := Lib.hid (HZ.out.keep0 (kC.then krD))
    have hc1 := (HDB.out.keep0 (kC.then krD)).cellsAt
    have hc2 := dD.cellsAt
    have HSM := Lib.hid (same_kr HZ2.out HY.out)
    rw [show decide (z = z) = true from by simp] at HSM
    clear kC krD kD dD hy HZ HDB
    obtain ⟨gy, hgy⟩ : ∃ gy, wC.heap.size = gy := ⟨_, rfl⟩
    rw [hgy] at hc2 ⊢
    clear hgy
    go_wp2_with (first
      | (refine wpList_load_agg rfl 26 (.tmp 3) rfl rfl (cs := il) (by rw [HZL.out]; exact agg_image) hc1 ?_)
      | (refine wpList_load_agg rfl 26 (.tmp 6) rfl rfl (cs := jl) (by rw [HYL.out]; exact agg_image) hc2 ?_)
      | (refine HSM.out.mono ?_; clear HSM; rintro e wE ⟨rfl, kE⟩)
      | (refine (HA _).out.mono ?_; clear HA; rintro e wF ⟨rfl, kF⟩))
    go_ret
    exact ⟨rfl, (KD.out.then kE).then kF⟩
end Go.Proofs.Ytoepkhkaifgddaa
