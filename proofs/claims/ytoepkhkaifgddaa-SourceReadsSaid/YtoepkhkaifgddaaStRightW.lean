/- Which steps are right: the program's answer; walked. No condition. Which steps are right: the program's answer; walked. No condition. The document's has and in; walked. Condition: a text in which a byte is looked for is no longer than a million bytes. -/
import Derived.Test.YtoepkhkaifgddaaStParseW
namespace Go.Proofs.Ytoepkhkaifgddaa
open Go.RowKit

def numB (n : Int) : Bool := decide (0 ≤ n) && decide (n ≤ 2147483647)
def secB (x : Sct) : Bool := numB x.res && numB x.frm && numB x.to
def hasB (p : ByteArray) (c : Int) : Bool := decide (0 ≤ idxB p c)
def nOk (p : ByteArray) (n : Int) : Bool := if hasB p 110 then numB n else if hasB p 104 then decide (0 ≤ n) && decide (n ≤ 4294967295) else n == 0
def rightP (s : Stp) : Bool :=
  isKind s.kind && numB s.a && (s.a == 0 || hasB (shp s.kind).2 97) && (nOk (shp s.kind).2 s.n && s.secs.all (fun x => hasB (shp s.kind).2 115 && secB x)) && (s.words.length == 0 || hasB (shp s.kind).2 119)

set_option maxRecDepth 100000 in
theorem number_any (n : Int) (w : World) : Calls Try.prog 55 #[.int .i64 n] w fun e w' => e = .returned (.bool (numB n)) ∧ w = w' := by
  unfold numB
  rcases Int.lt_or_le n 0 with h | h
  · have h1 : decide (0 ≤ n) = false := decide_eq_false (by omega)
    rw [h1]
    go_enter Try.func55, Try.ntmps55
    go_wp2
    go_ret
    exact ⟨by simp, rfl⟩
  · rcases Int.lt_or_le 2147483647 n with h2 | h2
    · have e1 : decide (0 ≤ n) = true := decide_eq_true h
      have e2 : decide (n ≤ 2147483647) = false := decide_eq_false (by omega)
      rw [e1, e2]
      go_enter Try.func55, Try.ntmps55
      go_wp2
      go_ret
      exact ⟨by simp, rfl⟩
    · have e1 : decide (0 ≤ n) = true := decide_eq_true h
      have e2 : decide (n ≤ 2147483647) = true := decide_eq_true h2
      rw [e1, e2]
      go_enter Try.func55, Try.ntmps55
      go_wp2
      go_ret
      exact ⟨by simp, rfl⟩

set_option maxRecDepth 100000 in
theorem section_any (x : Sct) (w : World) : Calls Try.prog 56 #[.agg #[.int .i64 x.res, .int .i64 x.frm, .int .i64 x.to]] w fun e w' => e = .returned (.bool (secB x)) ∧ Keep [] w w' := by
  have HN := fun n W => Lib.hid (number_any n W)
  unfold secB
  obtain ⟨a, b, c⟩ := x
  dsimp only
  have H1 := fun W => HN a W
  have H2 := fun W => HN b W
  have H3 := fun W => HN c W
  clear HN
  generalize numB a = b1 at *
  generalize numB b = b2 at *
  generalize numB c = b3 at *
  have hk := (Keep.refl [] w).alloc (.cells #[.int .i64 a, .int .i64 b, .int .i64 c] 85)
  go_enter Try.func56, Try.ntmps56
  go_wp2_with fail
  refine (H1 _).out.mono ?_
  rintro e w1 ⟨rfl, rfl⟩
  cases b1
  · go_wp2
    go_ret
    exact ⟨rfl, hk⟩
  · go_wp2_with fail
    refine (H2 _).out.mono ?_
    rintro e w1 ⟨rfl, rfl⟩
    cases b2
    · go_wp2
      go_ret
      exact ⟨rfl, hk⟩
    · go_wp2_with fail
      refine (H3 _).out.mono ?_
      rintro e w1 ⟨rfl, rfl⟩
      go_wp2
      go_ret
      exact ⟨rfl, hk⟩
end Go.Proofs.Ytoepkhkaifgddaa

namespace Go.Proofs.Ytoepkhkaifgddaa
open Go.RowKit

theorem bool6 : ∀ a b c d e f : Bool, (a && b && (c || d) && e && f) = (a && (!(!b || (!c && !d)) && (e && f))) := by decide
theorem right_form (s : Stp) : rightP s = (isKind s.kind && (!(!numB s.a || (s.a != 0 && !hasB (shp s.kind).2 97)) && ((nOk (shp s.kind).2 s.n && s.secs.all (fun x => hasB (shp s.kind).2 115 && secB x)) && (s.words.length == 0 || hasB (shp s.kind).2 119)))) := by
  unfold rightP
  rw [show (s.a != 0) = !(s.a == 0) from rfl]
  exact bool6 _ _ _ _ _ _
set_option maxRecDepth 100000 in
set_option maxHeartbeats 4000000 in
theorem right_any (s : Stp) (v : StpV) (w : World) (h : StepAt w v s) :
    Calls Try.prog 24 #[.agg #[.int .i64 s.kind, .int .i64 s.a, .int .i64 s.n, .slice v.sa s.secs.length v.sc, .slice v.wa s.words.length v.wc]] w fun e w' => e = .returned (.bool (rightP s)) ∧ Keep [] w w' := by
  have HS := fun W => Lib.hid (shapeOf_any s.kind W)
  have hb0 := Blk.new w 45 #[.int .i64 s.kind, .int .i64 s.a, .int .i64 s.n, .slice v.sa s.secs.length v.sc, .slice v.wa s.words.length v.wc]
  have hk0 := (Keep.refl [] w).alloc (.cells #[.int .i64 s.kind, .int .i64 s.a, .int .i64 s.n, .slice v.sa s.secs.length v.sc, .slice v.wa s.words.length v.wc] 45)
  have HRT := Lib.hid (right_form s)
  generalize shp s.kind = sp at *
  obtain ⟨wd, p⟩ := sp
  dsimp only at HRT
  generalize isKind s.kind = ik at *
  go_enter Try.func24, Try.ntmps24
  go_wp2_with fail
  refine (HS _).out.mono ?_
  rintro e w1 ⟨rfl, k1⟩
  have hb1 := hb0.keep0 k1
  have hk1 := hk0.then k1
  clear hb0 hk0 k1 HS
  obtain ⟨W1, hW1⟩ : ∃ W1, w1.alloc (.cells #[.string wd, .string p] 95) = W1 := ⟨_, rfl⟩
  have hd1 : Blk W1 w1.heap.size 95 #[.string wd, .string p] := by rw [← hW1]; exact Blk.new _ _ _
  have hb2 : Blk W1 w.heap.size 45 #[.int .i64 s.kind, .int .i64 s.a, .int .i64 s.n, .slice v.sa s.secs.length v.sc, .slice v.wa s.words.length v.wc] := by rw [← hW1]; exact hb1.alloc _
  have hk2 : Keep [] w W1 := by rw [← hW1]; exact hk1.alloc _
  have hG : ∀ w', Keep [] W1 w' → (w'.cell? ⟨w.heap.size, 1, none⟩ = some (.int .i64 s.a) ∧ w'.cell? ⟨w.heap.size, 2, none⟩ = some (.int .i64 s.n) ∧ w'.cell? ⟨w.heap.size, 3, none⟩ = some (.slice v.sa s.secs.length v.sc) ∧ w'.cell? ⟨w.heap.size, 4, none⟩ = some (.slice v.wa s.words.length v.wc)) ∧ w'.cell? ⟨w1.heap.size, 0, none⟩ = some (.string wd) ∧ w'.cell? ⟨w1.heap.size, 1, none⟩ = some (.string p) := fun w' k =>
    ⟨⟨(hb2.keep0 k).cell 1, (hb2.keep0 k).cell 2, (hb2.keep0 k).cell 3, (hb2.keep0 k).cell 4⟩, (hd1.keep0 k).cell 0, (hd1.keep0 k).cell 1⟩
  clear hb1 hk1 hb2 hd1
  have HSec : ∀ W, Keep [] W1 W → 0 < s.secs.length → ∃ b o, v.sa = some ⟨b, o, none⟩ ∧ ∀ k, (hk : k < s.secs.length) → W.cell? ⟨b, o + k * 3, none⟩ = some (.int .i64 s.secs[k].res) ∧ W.cell? ⟨b, o + k * 3 + 1, none⟩ = some (.int .i64 s.secs[k].frm) ∧ W.cell? ⟨b, o + k * 3 + 2, none⟩ = some (.int .i64 s.secs[k].to) := fun W k h0 => by
    obtain ⟨b, o, e, hb, hc⟩ := (h.keep0 (hk2.then k)).sec h0
    exact ⟨b, o, e, fun j hj => ⟨hc j hj 0 _ rfl, hc j hj 1 _ rfl, hc j hj 2 _ rfl⟩⟩
  have hls := h.ls
  have hlw := h.lw
  have HH := fun c W => Lib.hid (has_any' wd p c W)
  have HN := fun n W => Lib.hid (number_any n W)
  have HX := fun x W => Lib.hid (section_any x W)
  clear h
  cases ik
  · go_wp2
    go_ret
    exact ⟨by rw [HRT.out]; simp, hk2⟩
  · go_upto_region 2 with fail
    clear hW1
    generalize w1.heap.size = g3 at *
    go_cut [30] (fun p30 wx => p30 = .bool (!numB s.a || (s.a != 0 && !hasB p 97)) ∧ Keep [] W1 wx)
    case first =>
      obtain ⟨⟨f1, f2, f3, f4⟩, f5, f6⟩ := hG _ (Keep.refl _ _)
      have HNa := fun W => HN s.a W
      have HHa := fun W => HH 97 W
      have hhb : decide (0 ≤ idxB p 97) = hasB p 97 := rfl
      rw [hhb] at HHa
      clear HN HH HX HSec
      generalize numB s.a = n1 at *
      generalize hasB p 97 = h1 at *
      go_wp2_with fail
      refine (HNa _).out.mono ?_
      rintro e w2 ⟨rfl, rfl⟩
      cases n1
      · go_wp2
        go_meet
        exact ⟨by simp, Keep.refl _ _⟩
      · by_cases ha : s.a = 0
        · have ha1 : (s.a != 0) = false := by simp [ha]
          clear ha
          go_wp2
          go_meet
          exact ⟨by simp [ha1], Keep.refl _ _⟩
        · have ha1 : (s.a != 0) = true := by simp [ha]
          clear ha
          go_wp2_with fail
          refine (HHa _).out.mono ?_
          rintro e w2 ⟨rfl, k2⟩
          go_wp2
          go_meet
          exact ⟨by simp [ha1], k2⟩
    case rest =>
      obtain ⟨rfl, hkc⟩ := hcut
      have hHb : ∀ c, decide (0 ≤ idxB p c) = hasB p c := fun c => rfl
      have HH' := fun c W => HH c W
      simp only [hHb] at HH'
      clear HH hHb
      obtain ⟨b0, hb0⟩ : ∃ b0, (!numB s.a || (s.a != 0 && !hasB p 97)) = b0 := ⟨_, rfl⟩
      rw [hb0]
      have Hb0 := Lib.hid hb0
      clear hb0
      cases b0
      · obtain ⟨⟨f1, f2, f3, f4⟩, f5, f6⟩ := hG _ hkc
        have HN1 := fun W => HN s.n W
        have HHn := fun W => HH' 110 W
        have HHh := fun W => HH' 104 W
        cases hn : hasB p 110
        · rw [hn] at HHn
          cases hh : hasB p 104
          · rw [hh] at HHh
            have hno : Hid (nOk p s.n = (s.n == 0)) := by show _ = _; unfold nOk; simp [hn, hh]
            clear hn hh
            go_wp2_with fail
            refine (HHn _).out.mono ?_
            rintro e w4 ⟨rfl, k4⟩
            obtain ⟨⟨a1, a2, a3, a4⟩, a5, a6⟩ := hG _ (hkc.then k4)
            go_wp2_with fail
            refine (HHh _).out.mono ?_
            rintro e w5 ⟨rfl, k5⟩
            obtain ⟨⟨d1, d2, d3, d4⟩, d5, d6⟩ := hG _ ((hkc.then k4).then k5)
            have HKc := Lib.hid ((hkc.then k4).then k5)
            clear f1 f2 f3 f4 f5 f6 a1 a2 a3 a4 a5 a6 k4 k5 hkc HN HN1 HHn HHh
            go_wp2
            go_loopw [54, 4] (fun v54 v4 wr => ∃ k : Nat, k ≤ s.secs.length ∧ v54 = .int .i64 (k : Int) ∧ v4 = .bool (nOk p s.n && (s.secs.take k).all (fun x => hasB p 115 && secB x)) ∧ Keep [] W1 wr) (fun v54 _ _ => s.secs.length - (intOf v54).toNat)
            case atStart => exact ⟨0, Nat.zero_le _, rfl, by rw [hno.out]; simp, HKc.out⟩
            case round =>
              obtain ⟨k, hk, rfl, rfl, hkr⟩ := hrel
              have HKr := Lib.hid hkr
              by_cases hlt : k < s.secs.length
              · obtain ⟨sb, so, hsa, hcs⟩ := HSec wr hkr (by omega)
                obtain ⟨q1, q2, q3⟩ := hcs k hlt
                have hnx : Hid ((nOk p s.n && (s.secs.take (k + 1)).all (fun x => hasB p 115 && secB x)) = ((nOk p s.n && (s.secs.take k).all (fun x => hasB p 115 && secB x)) && (hasB p 115 && secB s.secs[k]))) := by
                  show _ = _
                  rw [List.take_succ_eq_append_getElem hlt, List.all_append, Bool.and_assoc]
                  simp
                have p0 : (0 : Int) ≤ (k : Int) := by omega
                have p1 : (k : Int) < (s.secs.length : Int) := by omega
                have HHs := fun W => HH' 115 W
                have HXs := fun W => HX s.secs[k] W
                generalize s.secs[k] = x at *
                obtain ⟨x1, x2, x3⟩ := x
                dsimp only at *
                generalize (nOk p s.n && (s.secs.take k).all (fun x => hasB p 115 && secB x)) = bk at *
                generalize hasB p 115 = h5 at *
                generalize secB ⟨x1, x2, x3⟩ = sx at *
                rw [hsa]
                clear hcs hkr hk
                unfold maxLen at hls
                have kx := (Keep.refl [] wr).alloc (.cells #[.int .i64 x1, .int .i64 x2, .int .i64 x3] 85)
                have KX := Lib.hid (HKr.out.then kx)
                have hd := Blk.new wr 85 #[.int .i64 x1, .int .i64 x2, .int .i64 x3]
                obtain ⟨V, hV⟩ : ∃ V, wr.alloc (.cells #[.int .i64 x1, .int .i64 x2, .int .i64 x3] 85) = V := ⟨_, rfl⟩
                rw [hV] at hd KX
                obtain ⟨⟨f1, f2, f3, f4⟩, f5, f6⟩ := hG _ KX.out
                cases bk
                · go_wp2
                  go_roundw
                  case rel => exact ⟨k + 1, by omega, by go_num, by rw [hnx.out]; simp, KX.out⟩
                  case measure => simp [intOf]; omega
                · go_wp2_with fail
                  refine (HHs _).out.mono ?_
                  rintro e w6 ⟨rfl, k6⟩
                  have K6 := Lib.hid (KX.out.then k6)
                  have hd6 := hd.keep0 k6
                  have e1 := hd6.cell 0
                  have e2 := hd6.cell 1
                  have e3 := hd6.cell 2
                  simp at e1 e2 e3
                  clear hd hd6 k6
                  cases h5
                  · go_wp2
                    go_roundw
                    case rel => exact ⟨k + 1, by omega, by go_num, by rw [hnx.out]; simp, K6.out⟩
                    case measure => simp [intOf]; omega
                  · go_wp2_with fail
                    refine (HXs _).out.mono ?_
                    rintro e w7 ⟨rfl, k7⟩
                    go_wp2
                    go_roundw
                    case rel => exact ⟨k + 1, by omega, by go_num, by rw [hnx.out]; simp, K6.out.then k7⟩
                    case measure => simp [intOf]; omega
              · obtain rfl : k = s.secs.length := by omega
                have hfin : Hid (rightP s = ((nOk p s.n && (s.secs.take s.secs.length).all (fun x => hasB p 115 && secB x)) && (s.words.length == 0 || hasB p 119))) := by show _ = _; rw [HRT.out, Hb0.out, List.take_length]; simp
                obtain ⟨⟨f1, f2, f3, f4⟩, f5, f6⟩ := hG _ hkr
                have HHw := fun W => HH' 119 W
                generalize (nOk p s.n && (s.secs.take s.secs.length).all (fun x => hasB p 115 && secB x)) = bk at *
                generalize hasB p 119 = h9 at *
                clear HSec HX hk hkr
                have HK9 := Lib.hid (hk2.then HKr.out)
                cases bk
                · go_wp2
                  go_ret
                  exact ⟨by rw [hfin.out]; simp, HK9.out⟩
                · by_cases hw0 : s.words.length = 0
                  · have hw1 : ((s.words.length : Int) == 0) = true := by simp [hw0]
                    have hw2 : Hid ((s.words.length == 0) = true) := by show _ = _; simp [hw0]
                    clear hw0
                    go_wp2
                    go_ret
                    exact ⟨by rw [hfin.out, hw2.out]; simp, HK9.out⟩
                  · have hw1 : ((s.words.length : Int) == 0) = false := by rw [beq_eq_false_iff_ne]; omega
                    have hw2 : Hid ((s.words.length == 0) = false) := by show _ = _; simp; intro h; exact hw0 (by rw [h]; rfl)
                    clear hw0
                    go_wp2_with fail
                    refine (HHw _).out.mono ?_
                    rintro e w6 ⟨rfl, k6⟩
                    go_wp2
                    go_ret
                    exact ⟨by rw [hfin.out, hw2.out]; simp, HK9.out.then k6⟩
          · rw [hh] at HHh
            rcases Int.lt_or_le s.n 0 with hz | hz
            · have hno : Hid (nOk p s.n = false) := by show _ = _; unfold nOk; simp [hn, hh]; omega
              have z1 : decide (0 ≤ s.n) = false := decide_eq_false (by omega)
              clear hn hh hz
              go_wp2_with fail
              refine (HHn _).out.mono ?_
              rintro e w4 ⟨rfl, k4⟩
              obtain ⟨⟨a1, a2, a3, a4⟩, a5, a6⟩ := hG _ (hkc.then k4)
              go_wp2_with fail
              refine (HHh _).out.mono ?_
              rintro e w5 ⟨rfl, k5⟩
              obtain ⟨⟨d1, d2, d3, d4⟩, d5, d6⟩ := hG _ ((hkc.then k4).then k5)
              have HKc := Lib.hid ((hkc.then k4).then k5)
              clear f1 f2 f3 f4 f5 f6 a1 a2 a3 a4 a5 a6 k4 k5 hkc HN HN1 HHn HHh
              go_wp2
              go_loopw [54, 4] (fun v54 v4 wr => ∃ k : Nat, k ≤ s.secs.length ∧ v54 = .int .i64 (k : Int) ∧ v4 = .bool (nOk p s.n && (s.secs.take k).all (fun x => hasB p 115 && secB x)) ∧ Keep [] W1 wr) (fun v54 _ _ => s.secs.length - (intOf v54).toNat)
              case atStart => exact ⟨0, Nat.zero_le _, rfl, by rw [hno.out]; simp, HKc.out⟩
              case round =>
                obtain ⟨k, hk, rfl, rfl, hkr⟩ := hrel
                have HKr := Lib.hid hkr
                by_cases hlt : k < s.secs.length
                · obtain ⟨sb, so, hsa, hcs⟩ := HSec wr hkr (by omega)
                  obtain ⟨q1, q2, q3⟩ := hcs k hlt
                  have hnx : Hid ((nOk p s.n && (s.secs.take (k + 1)).all (fun x => hasB p 115 && secB x)) = ((nOk p s.n && (s.secs.take k).all (fun x => hasB p 115 && secB x)) && (hasB p 115 && secB s.secs[k]))) := by
                    show _ = _
                    rw [List.take_succ_eq_append_getElem hlt, List.all_append, Bool.and_assoc]
                    simp
                  have p0 : (0 : Int) ≤ (k : Int) := by omega
                  have p1 : (k : Int) < (s.secs.length : Int) := by omega
                  have HHs := fun W => HH' 115 W
                  have HXs := fun W => HX s.secs[k] W
                  generalize s.secs[k] = x at *
                  obtain ⟨x1, x2, x3⟩ := x
                  dsimp only at *
                  generalize (nOk p s.n && (s.secs.take k).all (fun x => hasB p 115 && secB x)) = bk at *
                  generalize hasB p 115 = h5 at *
                  generalize secB ⟨x1, x2, x3⟩ = sx at *
                  rw [hsa]
                  clear hcs hkr hk
                  unfold maxLen at hls
                  have kx := (Keep.refl [] wr).alloc (.cells #[.int .i64 x1, .int .i64 x2, .int .i64 x3] 85)
                  have KX := Lib.hid (HKr.out.then kx)
                  have hd := Blk.new wr 85 #[.int .i64 x1, .int .i64 x2, .int .i64 x3]
                  obtain ⟨V, hV⟩ : ∃ V, wr.alloc (.cells #[.int .i64 x1, .int .i64 x2, .int .i64 x3] 85) = V := ⟨_, rfl⟩
                  rw [hV] at hd KX
                  obtain ⟨⟨f1, f2, f3, f4⟩, f5, f6⟩ := hG _ KX.out
                  cases bk
                  · go_wp2
                    go_roundw
                    case rel => exact ⟨k + 1, by omega, by go_num, by rw [hnx.out]; simp, KX.out⟩
                    case measure => simp [intOf]; omega
                  · go_wp2_with fail
                    refine (HHs _).out.mono ?_
                    rintro e w6 ⟨rfl, k6⟩
                    have K6 := Lib.hid (KX.out.then k6)
                    have hd6 := hd.keep0 k6
                    have e1 := hd6.cell 0
                    have e2 := hd6.cell 1
                    have e3 := hd6.cell 2
                    simp at e1 e2 e3
                    clear hd hd6 k6
                    cases h5
                    · go_wp2
                      go_roundw
                      case rel => exact ⟨k + 1, by omega, by go_num, by rw [hnx.out]; simp, K6.out⟩
                      case measure => simp [intOf]; omega
                    · go_wp2_with fail
                      refine (HXs _).out.mono ?_
                      rintro e w7 ⟨rfl, k7⟩
                      go_wp2
                      go_roundw
                      case rel => exact ⟨k + 1, by omega, by go_num, by rw [hnx.out]; simp, K6.out.then k7⟩
                      case measure => simp [intOf]; omega
                · obtain rfl : k = s.secs.length := by omega
                  have hfin : Hid (rightP s = ((nOk p s.n && (s.secs.take s.secs.length).all (fun x => hasB p 115 && secB x)) && (s.words.length == 0 || hasB p 119))) := by show _ = _; rw [HRT.out, Hb0.out, List.take_length]; simp
                  obtain ⟨⟨f1, f2, f3, f4⟩, f5, f6⟩ := hG _ hkr
                  have HHw := fun W => HH' 119 W
                  generalize (nOk p s.n && (s.secs.take s.secs.length).all (fun x => hasB p 115 && secB x)) = bk at *
                  generalize hasB p 119 = h9 at *
                  clear HSec HX hk hkr
                  have HK9 := Lib.hid (hk2.then HKr.out)
                  cases bk
                  · go_wp2
                    go_ret
                    exact ⟨by rw [hfin.out]; simp, HK9.out⟩
                  · by_cases hw0 : s.words.length = 0
                    · have hw1 : ((s.words.length : Int) == 0) = true := by simp [hw0]
                      have hw2 : Hid ((s.words.length == 0) = true) := by show _ = _; simp [hw0]
                      clear hw0
                      go_wp2
                      go_ret
                      exact ⟨by rw [hfin.out, hw2.out]; simp, HK9.out⟩
                    · have hw1 : ((s.words.length : Int) == 0) = false := by rw [beq_eq_false_iff_ne]; omega
                      have hw2 : Hid ((s.words.length == 0) = false) := by show _ = _; simp; intro h; exact hw0 (by rw [h]; rfl)
                      clear hw0
                      go_wp2_with fail
                      refine (HHw _).out.mono ?_
                      rintro e w6 ⟨rfl, k6⟩
                      go_wp2
                      go_ret
                      exact ⟨by rw [hfin.out, hw2.out]; simp, HK9.out.then k6⟩
            · rcases Int.lt_or_le 4294967295 s.n with hy | hy
              · have hno : Hid (nOk p s.n = false) := by show _ = _; unfold nOk; simp [hn, hh]; omega
                have z1 : decide (0 ≤ s.n) = true := decide_eq_true hz
                have z2 : decide (s.n ≤ 4294967295) = false := decide_eq_false (by omega)
                clear hn hh hz hy
                go_wp2_with fail
                refine (HHn _).out.mono ?_
                rintro e w4 ⟨rfl, k4⟩
                obtain ⟨⟨a1, a2, a3, a4⟩, a5, a6⟩ := hG _ (hkc.then k4)
                go_wp2_with fail
                refine (HHh _).out.mono ?_
                rintro e w5 ⟨rfl, k5⟩
                obtain ⟨⟨d1, d2, d3, d4⟩, d5, d6⟩ := hG _ ((hkc.then k4).then k5)
                have HKc := Lib.hid ((hkc.then k4).then k5)
                clear f1 f2 f3 f4 f5 f6 a1 a2 a3 a4 a5 a6 k4 k5 hkc HN HN1 HHn HHh
                go_wp2
                go_loopw [54, 4] (fun v54 v4 wr => ∃ k : Nat, k ≤ s.secs.length ∧ v54 = .int .i64 (k : Int) ∧ v4 = .bool (nOk p s.n && (s.secs.take k).all (fun x => hasB p 115 && secB x)) ∧ Keep [] W1 wr) (fun v54 _ _ => s.secs.length - (intOf v54).toNat)
                case atStart => exact ⟨0, Nat.zero_le _, rfl, by rw [hno.out]; simp, HKc.out⟩
                case round =>
                  obtain ⟨k, hk, rfl, rfl, hkr⟩ := hrel
                  have HKr := Lib.hid hkr
                  by_cases hlt : k < s.secs.length
                  · obtain ⟨sb, so, hsa, hcs⟩ := HSec wr hkr (by omega)
                    obtain ⟨q1, q2, q3⟩ := hcs k hlt
                    have hnx : Hid ((nOk p s.n && (s.secs.take (k + 1)).all (fun x => hasB p 115 && secB x)) = ((nOk p s.n && (s.secs.take k).all (fun x => hasB p 115 && secB x)) && (hasB p 115 && secB s.secs[k]))) := by
                      show _ = _
                      rw [List.take_succ_eq_append_getElem hlt, List.all_append, Bool.and_assoc]
                      simp
                    have p0 : (0 : Int) ≤ (k : Int) := by omega
                    have p1 : (k : Int) < (s.secs.length : Int) := by omega
                    have HHs := fun W => HH' 115 W
                    have HXs := fun W => HX s.secs[k] W
                    generalize s.secs[k] = x at *
                    obtain ⟨x1, x2, x3⟩ := x
                    dsimp only at *
                    generalize (nOk p s.n && (s.secs.take k).all (fun x => hasB p 115 && secB x)) = bk at *
                    generalize hasB p 115 = h5 at *
                    generalize secB ⟨x1, x2, x3⟩ = sx at *
                    rw [hsa]
                    clear hcs hkr hk
                    unfold maxLen at hls
                    have kx := (Keep.refl [] wr).alloc (.cells #[.int .i64 x1, .int .i64 x2, .int .i64 x3] 85)
                    have KX := Lib.hid (HKr.out.then kx)
                    have hd := Blk.new wr 85 #[.int .i64 x1, .int .i64 x2, .int .i64 x3]
                    obtain ⟨V, hV⟩ : ∃ V, wr.alloc (.cells #[.int .i64 x1, .int .i64 x2, .int .i64 x3] 85) = V := ⟨_, rfl⟩
                    rw [hV] at hd KX
                    obtain ⟨⟨f1, f2, f3, f4⟩, f5, f6⟩ := hG _ KX.out
                    cases bk
                    · go_wp2
                      go_roundw
                      case rel => exact ⟨k + 1, by omega, by go_num, by rw [hnx.out]; simp, KX.out⟩
                      case measure => simp [intOf]; omega
                    · go_wp2_with fail
                      refine (HHs _).out.mono ?_
                      rintro e w6 ⟨rfl, k6⟩
                      have K6 := Lib.hid (KX.out.then k6)
                      have hd6 := hd.keep0 k6
                      have e1 := hd6.cell 0
                      have e2 := hd6.cell 1
                      have e3 := hd6.cell 2
                      simp at e1 e2 e3
                      clear hd hd6 k6
                      cases h5
                      · go_wp2
                        go_roundw
                        case rel => exact ⟨k + 1, by omega, by go_num, by rw [hnx.out]; simp, K6.out⟩
                        case measure => simp [intOf]; omega
                      · go_wp2_with fail
                        refine (HXs _).out.mono ?_
                        rintro e w7 ⟨rfl, k7⟩
                        go_wp2
                        go_roundw
                        case rel => exact ⟨k + 1, by omega, by go_num, by rw [hnx.out]; simp, K6.out.then k7⟩
                        case measure => simp [intOf]; omega
                  · obtain rfl : k = s.secs.length := by omega
                    have hfin : Hid (rightP s = ((nOk p s.n && (s.secs.take s.secs.length).all (fun x => hasB p 115 && secB x)) && (s.words.length == 0 || hasB p 119))) := by show _ = _; rw [HRT.out, Hb0.out, List.take_length]; simp
                    obtain ⟨⟨f1, f2, f3, f4⟩, f5, f6⟩ := hG _ hkr
                    have HHw := fun W => HH' 119 W
                    generalize (nOk p s.n && (s.secs.take s.secs.length).all (fun x => hasB p 115 && secB x)) = bk at *
                    generalize hasB p 119 = h9 at *
                    clear HSec HX hk hkr
                    have HK9 := Lib.hid (hk2.then HKr.out)
                    cases bk
                    · go_wp2
                      go_ret
                      exact ⟨by rw [hfin.out]; simp, HK9.out⟩
                    · by_cases hw0 : s.words.length = 0
                      · have hw1 : ((s.words.length : Int) == 0) = true := by simp [hw0]
                        have hw2 : Hid ((s.words.length == 0) = true) := by show _ = _; simp [hw0]
                        clear hw0
                        go_wp2
                        go_ret
                        exact ⟨by rw [hfin.out, hw2.out]; simp, HK9.out⟩
                      · have hw1 : ((s.words.length : Int) == 0) = false := by rw [beq_eq_false_iff_ne]; omega
                        have hw2 : Hid ((s.words.length == 0) = false) := by show _ = _; simp; intro h; exact hw0 (by rw [h]; rfl)
                        clear hw0
                        go_wp2_with fail
                        refine (HHw _).out.mono ?_
                        rintro e w6 ⟨rfl, k6⟩
                        go_wp2
                        go_ret
                        exact ⟨by rw [hfin.out, hw2.out]; simp, HK9.out.then k6⟩
              · have hno : Hid (nOk p s.n = true) := by show _ = _; unfold nOk; simp [hn, hh]; omega
                have z1 : decide (0 ≤ s.n) = true := decide_eq_true hz
                have z2 : decide (s.n ≤ 4294967295) = true := decide_eq_true hy
                clear hn hh hz hy
                go_wp2_with fail
                refine (HHn _).out.mono ?_
                rintro e w4 ⟨rfl, k4⟩
                obtain ⟨⟨a1, a2, a3, a4⟩, a5, a6⟩ := hG _ (hkc.then k4)
                go_wp2_with fail
                refine (HHh _).out.mono ?_
                rintro e w5 ⟨rfl, k5⟩
                obtain ⟨⟨d1, d2, d3, d4⟩, d5, d6⟩ := hG _ ((hkc.then k4).then k5)
                have HKc := Lib.hid ((hkc.then k4).then k5)
                clear f1 f2 f3 f4 f5 f6 a1 a2 a3 a4 a5 a6 k4 k5 hkc HN HN1 HHn HHh
                go_wp2
                go_loopw [54, 4] (fun v54 v4 wr => ∃ k : Nat, k ≤ s.secs.length ∧ v54 = .int .i64 (k : Int) ∧ v4 = .bool (nOk p s.n && (s.secs.take k).all (fun x => hasB p 115 && secB x)) ∧ Keep [] W1 wr) (fun v54 _ _ => s.secs.length - (intOf v54).toNat)
                case atStart => exact ⟨0, Nat.zero_le _, rfl, by rw [hno.out]; simp, HKc.out⟩
                case round =>
                  obtain ⟨k, hk, rfl, rfl, hkr⟩ := hrel
                  have HKr := Lib.hid hkr
                  by_cases hlt : k < s.secs.length
                  · obtain ⟨sb, so, hsa, hcs⟩ := HSec wr hkr (by omega)
                    obtain ⟨q1, q2, q3⟩ := hcs k hlt
                    have hnx : Hid ((nOk p s.n && (s.secs.take (k + 1)).all (fun x => hasB p 115 && secB x)) = ((nOk p s.n && (s.secs.take k).all (fun x => hasB p 115 && secB x)) && (hasB p 115 && secB s.secs[k]))) := by
                      show _ = _
                      rw [List.take_succ_eq_append_getElem hlt, List.all_append, Bool.and_assoc]
                      simp
                    have p0 : (0 : Int) ≤ (k : Int) := by omega
                    have p1 : (k : Int) < (s.secs.length : Int) := by omega
                    have HHs := fun W => HH' 115 W
                    have HXs := fun W => HX s.secs[k] W
                    generalize s.secs[k] = x at *
                    obtain ⟨x1, x2, x3⟩ := x
                    dsimp only at *
                    generalize (nOk p s.n && (s.secs.take k).all (fun x => hasB p 115 && secB x)) = bk at *
                    generalize hasB p 115 = h5 at *
                    generalize secB ⟨x1, x2, x3⟩ = sx at *
                    rw [hsa]
                    clear hcs hkr hk
                    unfold maxLen at hls
                    have kx := (Keep.refl [] wr).alloc (.cells #[.int .i64 x1, .int .i64 x2, .int .i64 x3] 85)
                    have KX := Lib.hid (HKr.out.then kx)
                    have hd := Blk.new wr 85 #[.int .i64 x1, .int .i64 x2, .int .i64 x3]
                    obtain ⟨V, hV⟩ : ∃ V, wr.alloc (.cells #[.int .i64 x1, .int .i64 x2, .int .i64 x3] 85) = V := ⟨_, rfl⟩
                    rw [hV] at hd KX
                    obtain ⟨⟨f1, f2, f3, f4⟩, f5, f6⟩ := hG _ KX.out
                    cases bk
                    · go_wp2
                      go_roundw
                      case rel => exact ⟨k + 1, by omega, by go_num, by rw [hnx.out]; simp, KX.out⟩
                      case measure => simp [intOf]; omega
                    · go_wp2_with fail
                      refine (HHs _).out.mono ?_
                      rintro e w6 ⟨rfl, k6⟩
                      have K6 := Lib.hid (KX.out.then k6)
                      have hd6 := hd.keep0 k6
                      have e1 := hd6.cell 0
                      have e2 := hd6.cell 1
                      have e3 := hd6.cell 2
                      simp at e1 e2 e3
                      clear hd hd6 k6
                      cases h5
                      · go_wp2
                        go_roundw
                        case rel => exact ⟨k + 1, by omega, by go_num, by rw [hnx.out]; simp, K6.out⟩
                        case measure => simp [intOf]; omega
                      · go_wp2_with fail
                        refine (HXs _).out.mono ?_
                        rintro e w7 ⟨rfl, k7⟩
                        go_wp2
                        go_roundw
                        case rel => exact ⟨k + 1, by omega, by go_num, by rw [hnx.out]; simp, K6.out.then k7⟩
                        case measure => simp [intOf]; omega
                  · obtain rfl : k = s.secs.length := by omega
                    have hfin : Hid (rightP s = ((nOk p s.n && (s.secs.take s.secs.length).all (fun x => hasB p 115 && secB x)) && (s.words.length == 0 || hasB p 119))) := by show _ = _; rw [HRT.out, Hb0.out, List.take_length]; simp
                    obtain ⟨⟨f1, f2, f3, f4⟩, f5, f6⟩ := hG _ hkr
                    have HHw := fun W => HH' 119 W
                    generalize (nOk p s.n && (s.secs.take s.secs.length).all (fun x => hasB p 115 && secB x)) = bk at *
                    generalize hasB p 119 = h9 at *
                    clear HSec HX hk hkr
                    have HK9 := Lib.hid (hk2.then HKr.out)
                    cases bk
                    · go_wp2
                      go_ret
                      exact ⟨by rw [hfin.out]; simp, HK9.out⟩
                    · by_cases hw0 : s.words.length = 0
                      · have hw1 : ((s.words.length : Int) == 0) = true := by simp [hw0]
                        have hw2 : Hid ((s.words.length == 0) = true) := by show _ = _; simp [hw0]
                        clear hw0
                        go_wp2
                        go_ret
                        exact ⟨by rw [hfin.out, hw2.out]; simp, HK9.out⟩
                      · have hw1 : ((s.words.length : Int) == 0) = false := by rw [beq_eq_false_iff_ne]; omega
                        have hw2 : Hid ((s.words.length == 0) = false) := by show _ = _; simp; intro h; exact hw0 (by rw [h]; rfl)
                        clear hw0
                        go_wp2_with fail
                        refine (HHw _).out.mono ?_
                        rintro e w6 ⟨rfl, k6⟩
                        go_wp2
                        go_ret
                        exact ⟨by rw [hfin.out, hw2.out]; simp, HK9.out.then k6⟩
        · rw [hn] at HHn
          have hno : Hid (nOk p s.n = numB s.n) := by show _ = _; unfold nOk; simp [hn]
          clear hn
          go_wp2_with fail
          refine (HHn _).out.mono ?_
          rintro e w4 ⟨rfl, k4⟩
          obtain ⟨⟨a1, a2, a3, a4⟩, a5, a6⟩ := hG _ (hkc.then k4)
          go_wp2_with fail
          refine (HN1 _).out.mono ?_
          rintro e w5 ⟨rfl, rfl⟩
          have HKc := Lib.hid (hkc.then k4)
          clear f1 f2 f3 f4 f5 f6 k4 hkc HN HN1 HHn HHh
          go_wp2
          go_loopw [54, 4] (fun v54 v4 wr => ∃ k : Nat, k ≤ s.secs.length ∧ v54 = .int .i64 (k : Int) ∧ v4 = .bool (nOk p s.n && (s.secs.take k).all (fun x => hasB p 115 && secB x)) ∧ Keep [] W1 wr) (fun v54 _ _ => s.secs.length - (intOf v54).toNat)
          case atStart => exact ⟨0, Nat.zero_le _, rfl, by rw [hno.out]; simp, HKc.out⟩
          case round =>
            obtain ⟨k, hk, rfl, rfl, hkr⟩ := hrel
            have HKr := Lib.hid hkr
            by_cases hlt : k < s.secs.length
            · obtain ⟨sb, so, hsa, hcs⟩ := HSec wr hkr (by omega)
              obtain ⟨q1, q2, q3⟩ := hcs k hlt
              have hnx : Hid ((nOk p s.n && (s.secs.take (k + 1)).all (fun x => hasB p 115 && secB x)) = ((nOk p s.n && (s.secs.take k).all (fun x => hasB p 115 && secB x)) && (hasB p 115 && secB s.secs[k]))) := by
                show _ = _
                rw [List.take_succ_eq_append_getElem hlt, List.all_append, Bool.and_assoc]
                simp
              have p0 : (0 : Int) ≤ (k : Int) := by omega
              have p1 : (k : Int) < (s.secs.length : Int) := by omega
              have HHs := fun W => HH' 115 W
              have HXs := fun W => HX s.secs[k] W
              generalize s.secs[k] = x at *
              obtain ⟨x1, x2, x3⟩ := x
              dsimp only at *
              generalize (nOk p s.n && (s.secs.take k).all (fun x => hasB p 115 && secB x)) = bk at *
              generalize hasB p 115 = h5 at *
              generalize secB ⟨x1, x2, x3⟩ = sx at *
              rw [hsa]
              clear hcs hkr hk
              unfold maxLen at hls
              have kx := (Keep.refl [] wr).alloc (.cells #[.int .i64 x1, .int .i64 x2, .int .i64 x3] 85)
              have KX := Lib.hid (HKr.out.then kx)
              have hd := Blk.new wr 85 #[.int .i64 x1, .int .i64 x2, .int .i64 x3]
              obtain ⟨V, hV⟩ : ∃ V, wr.alloc (.cells #[.int .i64 x1, .int .i64 x2, .int .i64 x3] 85) = V := ⟨_, rfl⟩
              rw [hV] at hd KX
              obtain ⟨⟨f1, f2, f3, f4⟩, f5, f6⟩ := hG _ KX.out
              cases bk
              · go_wp2
                go_roundw
                case rel => exact ⟨k + 1, by omega, by go_num, by rw [hnx.out]; simp, KX.out⟩
                case measure => simp [intOf]; omega
              · go_wp2_with fail
                refine (HHs _).out.mono ?_
                rintro e w6 ⟨rfl, k6⟩
                have K6 := Lib.hid (KX.out.then k6)
                have hd6 := hd.keep0 k6
                have e1 := hd6.cell 0
                have e2 := hd6.cell 1
                have e3 := hd6.cell 2
                simp at e1 e2 e3
                clear hd hd6 k6
                cases h5
                · go_wp2
                  go_roundw
                  case rel => exact ⟨k + 1, by omega, by go_num, by rw [hnx.out]; simp, K6.out⟩
                  case measure => simp [intOf]; omega
                · go_wp2_with fail
                  refine (HXs _).out.mono ?_
                  rintro e w7 ⟨rfl, k7⟩
                  go_wp2
                  go_roundw
                  case rel => exact ⟨k + 1, by omega, by go_num, by rw [hnx.out]; simp, K6.out.then k7⟩
                  case measure => simp [intOf]; omega
            · obtain rfl : k = s.secs.length := by omega
              have hfin : Hid (rightP s = ((nOk p s.n && (s.secs.take s.secs.length).all (fun x => hasB p 115 && secB x)) && (s.words.length == 0 || hasB p 119))) := by show _ = _; rw [HRT.out, Hb0.out, List.take_length]; simp
              obtain ⟨⟨f1, f2, f3, f4⟩, f5, f6⟩ := hG _ hkr
              have HHw := fun W => HH' 119 W
              generalize (nOk p s.n && (s.secs.take s.secs.length).all (fun x => hasB p 115 && secB x)) = bk at *
              generalize hasB p 119 = h9 at *
              clear HSec HX hk hkr
              have HK9 := Lib.hid (hk2.then HKr.out)
              cases bk
              · go_wp2
                go_ret
                exact ⟨by rw [hfin.out]; simp, HK9.out⟩
              · by_cases hw0 : s.words.length = 0
                · have hw1 : ((s.words.length : Int) == 0) = true := by simp [hw0]
                  have hw2 : Hid ((s.words.length == 0) = true) := by show _ = _; simp [hw0]
                  clear hw0
                  go_wp2
                  go_ret
                  exact ⟨by rw [hfin.out, hw2.out]; simp, HK9.out⟩
                · have hw1 : ((s.words.length : Int) == 0) = false := by rw [beq_eq_false_iff_ne]; omega
                  have hw2 : Hid ((s.words.length == 0) = false) := by show _ = _; simp; intro h; exact hw0 (by rw [h]; rfl)
                  clear hw0
                  go_wp2_with fail
                  refine (HHw _).out.mono ?_
                  rintro e w6 ⟨rfl, k6⟩
                  go_wp2
                  go_ret
                  exact ⟨by rw [hfin.out, hw2.out]; simp, HK9.out.then k6⟩
      · go_wp2
        go_ret
        exact ⟨by rw [HRT.out, Hb0.out]; simp, hk2.then hkc⟩
end Go.Proofs.Ytoepkhkaifgddaa

namespace Go.Proofs.Ytoepkhkaifgddaa
open Go.RowKit

theorem index_ge : ∀ (l : List UInt8) (b : UInt8), -1 ≤ Lib.indexByte l b
  | [], b => by simp [Lib.indexByte]
  | x :: l, b => by
    have ih := index_ge l b
    rw [Lib.indexByte]
    split
    · decide
    · split
      · decide
      · omega
theorem index_mem : ∀ (l : List UInt8) (b : UInt8), 0 ≤ Lib.indexByte l b ↔ b ∈ l
  | [], b => by simp [Lib.indexByte]
  | a :: l, b => by
    have ih := index_mem l b
    have hg := index_ge l b
    rw [Lib.indexByte]
    by_cases h : a = b
    · subst h; simp
    · have h' : ¬ b = a := fun e => h e.symm
      have hc : (a == b) = false := by simpa using h
      simp only [List.mem_cons, h', false_or]
      rw [← ih, hc]
      by_cases h1 : Lib.indexByte l b = -1
      · have h2 : (Lib.indexByte l b == -1) = true := by simpa using h1
        rw [h2, h1]
        simp
      · have h3 : (Lib.indexByte l b == -1) = false := by simpa using h1
        rw [h3]
        simp
        omega
theorem hasB_iff (p : ByteArray) (c : Nat) (hc : c < 256) : hasB p (c : Int) = true ↔ ∃ i, ∃ h : i < p.size, p[i].toNat = c := by
  unfold hasB idxB
  rw [decide_eq_true_eq, index_mem, Int.toNat_natCast]
  constructor
  · intro h
    obtain ⟨i, hi, he⟩ := List.getElem_of_mem h
    refine ⟨i, by simpa using hi, ?_⟩
    have : p[i]'(by simpa using hi) = c.toUInt8 := by rw [← he]; rfl
    rw [this]
    simp
    omega
  · rintro ⟨i, hi, he⟩
    have h1 : c.toUInt8 = p.data.toList[i]'(by simpa using hi) := by
      apply UInt8.toNat_inj.1
      rw [show (p.data.toList[i]'(by simpa using hi)) = p[i] from rfl, he]
      simp
      omega
    rw [h1]
    exact List.getElem_mem _

set_option maxRecDepth 100000 in
theorem rhas_any (p : ByteArray) (c : Nat) (hc : c < 256) (hp : p.size ≤ 1000000) (w : World) : Calls Try.prog 58 #[.string p, .int .u8 (c : Int)] w fun e w' => e = .returned (.bool (hasB p (c : Int))) ∧ w = w' := by
  have HB := Lib.hid (hasB_iff p c hc)
  generalize hasB p (c : Int) = hb at *
  go_enter Try.func58, Try.ntmps58
  go_wp2
  go_loopw [5] (fun v5 wr => ∃ i : Nat, i ≤ p.size ∧ v5 = .int .i64 (i : Int) ∧ (∀ j, j < i → (h : j < p.size) → p[j].toNat ≠ c) ∧ w = wr) (fun v5 _ => p.size - (intOf v5).toNat)
  case atStart => exact ⟨0, Nat.zero_le _, rfl, fun j h => absurd h (by omega), rfl⟩
  case round =>
    obtain ⟨i, hi, rfl, hn, rfl⟩ := hrel
    by_cases hlt : i < p.size
    · by_cases he : p[i].toNat = c
      · have h1 : ((p[i].toNat : Int) == (c : Int)) = true := by simp [he]
        have h2 : Hid (hb = true) := HB.out.2 ⟨i, hlt, he⟩
        clear he hn
        go_wp2
        go_ret
        exact ⟨by rw [h2.out]; rfl, rfl⟩
      · have h1 : ((p[i].toNat : Int) == (c : Int)) = false := by rw [beq_eq_false_iff_ne]; omega
        have hn2 : Hid (∀ j, j < i + 1 → (h : j < p.size) → p[j].toNat ≠ c) := fun j hj h => by
          rcases Nat.lt_or_ge j i with hji | hji
          · exact hn j hji h
          · obtain rfl : j = i := by omega
            exact he
        clear he hn
        go_wp2
        go_roundw
        case rel => exact ⟨i + 1, by omega, by go_num, hn2.out, trivial⟩
        case measure => simp [intOf]; omega
    · have h2 : Hid (hb = false) := by
        show _ = _
        cases h : hb
        · rfl
        · obtain ⟨j, hj, he⟩ := HB.out.1 h
          exact absurd he (hn j (by omega) hj)
      clear hn
      go_wp2
      go_ret
      exact ⟨by rw [h2.out]; rfl, rfl⟩

set_option maxRecDepth 100000 in
theorem rin_any (n : Int) (w : World) : Calls Try.prog 57 #[.int .i64 n] w fun e w' => e = .returned (.bool (numB n)) ∧ w = w' := by
  unfold numB
  rcases Int.lt_or_le n 0 with h | h
  · have h1 : decide (0 ≤ n) = false := decide_eq_false (by omega)
    rw [h1]
    go_enter Try.func57, Try.ntmps57
    go_wp2
    go_ret
    exact ⟨by simp, rfl⟩
  · rcases Int.lt_or_le 2147483647 n with h2 | h2
    · have e1 : decide (0 ≤ n) = true := decide_eq_true h
      have e2 : decide (n ≤ 2147483647) = false := decide_eq_false (by omega)
      rw [e1, e2]
      go_enter Try.func57, Try.ntmps57
      go_wp2
      go_ret
      exact ⟨by simp, rfl⟩
    · have e1 : decide (0 ≤ n) = true := decide_eq_true h
      have e2 : decide (n ≤ 2147483647) = true := decide_eq_true h2
      rw [e1, e2]
      go_enter Try.func57, Try.ntmps57
      go_wp2
      go_ret
      exact ⟨by simp, rfl⟩
end Go.Proofs.Ytoepkhkaifgddaa
