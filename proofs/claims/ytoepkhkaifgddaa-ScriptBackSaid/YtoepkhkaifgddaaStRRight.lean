/- Which steps are right: the document's answer is the program's; walked. No condition. -/
import Derived.Test.YtoepkhkaifgddaaStRightW
import Derived.Test.YtoepkhkaifgddaaStForm
import Derived.Test.YtoepkhkaifgddaaStFormK
namespace Go.Proofs.Ytoepkhkaifgddaa
open Go.RowKit

theorem shp_nh (k : Int) : hasB (shp k).2 110 = true → hasB (shp k).2 104 = false := by
  by_cases hk : 1 ≤ k ∧ k ≤ 15
  · have : k = 1 ∨ k = 2 ∨ k = 3 ∨ k = 4 ∨ k = 5 ∨ k = 6 ∨ k = 7 ∨ k = 8 ∨ k = 9 ∨ k = 10 ∨ k = 11 ∨ k = 12 ∨ k = 13 ∨ k = 14 ∨ k = 15 := by omega
    clear hk
    rcases this with rfl | rfl | rfl | rfl | rfl | rfl | rfl | rfl | rfl | rfl | rfl | rfl | rfl | rfl | rfl
    all_goals decide
  · have hs : shp k = ({ data := #[] }, { data := #[] }) := by unfold shp; (repeat rw [if_neg (by omega)])
    rw [hs]
    decide
theorem shp_word (k : Int) : ((shp k).1.toList == ([] : List UInt8)) = !isKind k := by
  by_cases hk : 1 ≤ k ∧ k ≤ 15
  · have : k = 1 ∨ k = 2 ∨ k = 3 ∨ k = 4 ∨ k = 5 ∨ k = 6 ∨ k = 7 ∨ k = 8 ∨ k = 9 ∨ k = 10 ∨ k = 11 ∨ k = 12 ∨ k = 13 ∨ k = 14 ∨ k = 15 := by omega
    clear hk
    rcases this with rfl | rfl | rfl | rfl | rfl | rfl | rfl | rfl | rfl | rfl | rfl | rfl | rfl | rfl | rfl
    all_goals decide +kernel
  · have hs : shp k = ({ data := #[] }, { data := #[] }) := by unfold shp; (repeat rw [if_neg (by omega)])
    have hi : isKind k = false := by unfold isKind; simp; omega
    rw [hs, hi]
    decide +kernel
theorem bool8 : ∀ ik n a0 ha no al hs hw : Bool, (ik && n && (a0 || ha) && (no && al) && hw) = (!(!ik || !n || (!ha && !a0)) && (no && (al && hw))) := by decide
theorem all_and (p : Bool) (f : Sct → Bool) : ∀ l : List Sct, l.all (fun x => p && f x) = (l.all f && (p || l.length == 0))
  | [] => by simp
  | x :: l => by
    rw [List.all_cons, List.all_cons, all_and p f l]
    cases p <;> cases f x <;> simp
/-- The program's answer, as the document asks it. -/
theorem rright_form (s : Stp) : rightP s = (!(!isKind s.kind || !numB s.a || (!hasB (shp s.kind).2 97 && s.a != 0)) && (nOk (shp s.kind).2 s.n && (s.secs.all secB && ((hasB (shp s.kind).2 115 || s.secs.length == 0) && (hasB (shp s.kind).2 119 || s.words.length == 0))))) := by
  unfold rightP
  rw [show (s.a != 0) = !(s.a == 0) from rfl, all_and]
  generalize isKind s.kind = b1
  generalize numB s.a = b2
  generalize (s.a == 0) = b3
  generalize hasB (shp s.kind).2 97 = b4
  generalize nOk (shp s.kind).2 s.n = b5
  generalize s.secs.all secB = b6
  generalize (hasB (shp s.kind).2 115 || s.secs.length == 0) = b7
  generalize hasB (shp s.kind).2 119 = b8
  generalize (s.words.length == 0) = b9
  revert b1 b2 b3 b4 b5 b6 b7 b8 b9
  decide

set_option maxRecDepth 100000 in
set_option maxHeartbeats 4000000 in
theorem rright_any (s : Stp) (v : StpV) (w : World) (h : StepAt w v s) :
    Calls Try.prog 25 #[.agg #[.int .i64 s.kind, .int .i64 s.a, .int .i64 s.n, .slice v.sa s.secs.length v.sc, .slice v.wa s.words.length v.wc]] w fun e w' => e = .returned (.bool (rightP s)) ∧ Keep [] w w' := by
  have HS := fun W => Lib.hid (rform_any s.kind W)
  have hb0 := Blk.new w 45 #[.int .i64 s.kind, .int .i64 s.a, .int .i64 s.n, .slice v.sa s.secs.length v.sc, .slice v.wa s.words.length v.wc]
  have hk0 := (Keep.refl [] w).alloc (.cells #[.int .i64 s.kind, .int .i64 s.a, .int .i64 s.n, .slice v.sa s.secs.length v.sc, .slice v.wa s.words.length v.wc] 45)
  have HRT := Lib.hid (rright_form s)
  have hsh3 := shp_size s.kind
  have hnh := Lib.hid (shp_nh s.kind)
  have hwd := shp_word s.kind
  generalize shp s.kind = sp at *
  obtain ⟨wd, p⟩ := sp
  dsimp only at HRT hsh3 hnh hwd
  generalize isKind s.kind = ik at *
  go_enter Try.func25, Try.ntmps25
  go_wp2_with fail
  refine (HS _).out.mono ?_
  rintro e w1 ⟨rfl, k1⟩
  have hb1 := hb0.keep0 k1
  have hk2 := hk0.then k1
  have hG : ∀ w', Keep [] w1 w' → w'.cell? ⟨w.heap.size, 1, none⟩ = some (.int .i64 s.a) ∧ w'.cell? ⟨w.heap.size, 2, none⟩ = some (.int .i64 s.n) ∧ w'.cell? ⟨w.heap.size, 3, none⟩ = some (.slice v.sa s.secs.length v.sc) ∧ w'.cell? ⟨w.heap.size, 4, none⟩ = some (.slice v.wa s.words.length v.wc) := fun w' k =>
    ⟨(hb1.keep0 k).cell 1, (hb1.keep0 k).cell 2, (hb1.keep0 k).cell 3, (hb1.keep0 k).cell 4⟩
  have HSec : 0 < s.secs.length → ∃ b o, v.sa = some ⟨b, o, none⟩ ∧ ∀ k, (hk : k < s.secs.length) → w1.cell? ⟨b, o + k * 3, none⟩ = some (.int .i64 s.secs[k].res) ∧ w1.cell? ⟨b, o + k * 3 + 1, none⟩ = some (.int .i64 s.secs[k].frm) ∧ w1.cell? ⟨b, o + k * 3 + 2, none⟩ = some (.int .i64 s.secs[k].to) := fun h0 => by
    obtain ⟨b, o, e, hb, hc⟩ := (h.keep0 hk2).sec h0
    exact ⟨b, o, e, fun j hj => ⟨hc j hj 0 _ rfl, hc j hj 1 _ rfl, hc j hj 2 _ rfl⟩⟩
  have hls := h.ls
  have hlw := h.lw
  have HH := fun (c : Nat) (hc : c < 256) W => Lib.hid (rhas_any p c hc (by omega) W)
  have HN := fun n W => Lib.hid (rin_any n W)
  obtain ⟨f1, f2, f3, f4⟩ := hG _ (Keep.refl _ _)
  have HK2 := Lib.hid hk2
  clear h HS hb0 hk0 k1 hb1 hG hk2
  go_upto_region 2 with fail
  go_cut [29] (fun p29 wx => p29 = .bool (!ik || !numB s.a || (!hasB p 97 && s.a != 0)) ∧ w1 = wx)
  case first =>
    have HNa := fun W => HN s.a W
    have HHa := fun W => HH 97 (by decide) W
    clear HN HH HSec
    have hhc : ((97 : Nat) : Int) = 97 := rfl
    rw [hhc] at HHa
    generalize numB s.a = n1 at *
    generalize hasB p 97 = h1 at *
    clear hnh HRT
    cases ik
    · rw [Bool.not_false] at hwd
      go_wp2
      go_meet
      exact ⟨rfl, rfl⟩
    · rw [Bool.not_true] at hwd
      go_wp2_with fail
      refine (HNa _).out.mono ?_
      rintro e w2 ⟨rfl, rfl⟩
      cases n1
      · go_wp2
        go_meet
        exact ⟨rfl, rfl⟩
      · go_wp2_with fail
        refine (HHa _).out.mono ?_
        rintro e w2 ⟨rfl, rfl⟩
        cases h1
        · go_wp2
          go_meet
          exact ⟨by simp, rfl⟩
        · go_wp2
          go_meet
          exact ⟨by simp, rfl⟩
  case rest =>
    obtain ⟨rfl, rfl⟩ := hcut
    obtain ⟨b0, hb0⟩ : ∃ b0, (!ik || !numB s.a || (!hasB p 97 && s.a != 0)) = b0 := ⟨_, rfl⟩
    rw [hb0]
    rw [hb0] at HRT
    clear hb0 hwd
    cases b0
    · go_upto_region 4 with fail
      go_cut [66] (fun p66 wx => p66 = .bool (!nOk p s.n) ∧ w1 = wx)
      case first =>
        have HN1 := fun W => HN s.n W
        have HHn := fun W => HH 110 (by decide) W
        have HHh := fun W => HH 104 (by decide) W
        clear HN HH HSec HRT
        have hhc : ((110 : Nat) : Int) = 110 := rfl
        rw [hhc] at HHn
        have hhd : ((104 : Nat) : Int) = 104 := rfl
        rw [hhd] at HHh
        have hNO : Hid (nOk p s.n = if hasB p 110 = true then numB s.n else if hasB p 104 = true then decide (0 ≤ s.n) && decide (s.n ≤ 4294967295) else s.n == 0) := rfl
        generalize numB s.n = n1 at *
        generalize hasB p 110 = h1 at *
        generalize hasB p 104 = h2 at *
        clear hhc hhd
        cases h1
        · clear HN1
          cases h2
          · have hX : Hid ((if false = true then n1 else if false = true then decide (0 ≤ s.n) && decide (s.n ≤ 4294967295) else s.n == 0) = (s.n == 0)) := rfl
            go_wp2_with fail
            refine (HHn _).out.mono ?_
            rintro e w2 ⟨rfl, rfl⟩
            go_wp2_with fail
            refine (HHh _).out.mono ?_
            rintro e w2 ⟨rfl, rfl⟩
            go_wp2_with fail
            refine (HHn _).out.mono ?_
            rintro e w2 ⟨rfl, rfl⟩
            go_wp2_with fail
            refine (HHh _).out.mono ?_
            rintro e w2 ⟨rfl, rfl⟩
            go_wp2
            go_meet
            exact ⟨by rw [hNO.out, hX.out]; rfl, rfl⟩
          · have hX : Hid ((if false = true then n1 else if true = true then decide (0 ≤ s.n) && decide (s.n ≤ 4294967295) else s.n == 0) = (decide (0 ≤ s.n) && decide (s.n ≤ 4294967295))) := rfl
            have hcs : (s.n < 0) ∨ (0 ≤ s.n ∧ 4294967295 < s.n) ∨ (0 ≤ s.n ∧ s.n ≤ 4294967295) := by omega
            rcases hcs with hz | ⟨hz, hy⟩ | ⟨hz, hy⟩
            · have hv : Hid ((decide (0 ≤ s.n) && decide (s.n ≤ 4294967295)) = false) := by show _ = _; simp; omega
              have z1 : decide (s.n < 0) = true := decide_eq_true hz
              clear hz
              go_wp2_with fail
              refine (HHn _).out.mono ?_
              rintro e w2 ⟨rfl, rfl⟩
              go_wp2_with fail
              refine (HHh _).out.mono ?_
              rintro e w2 ⟨rfl, rfl⟩
              go_wp2
              go_meet
              exact ⟨by rw [hNO.out, hX.out, hv.out]; rfl, rfl⟩
            · have hv : Hid ((decide (0 ≤ s.n) && decide (s.n ≤ 4294967295)) = false) := by show _ = _; simp; omega
              have z1 : decide (s.n < 0) = false := decide_eq_false (by omega)
              have z2 : decide (4294967295 < s.n) = true := decide_eq_true hy
              clear hz hy
              go_wp2_with fail
              refine (HHn _).out.mono ?_
              rintro e w2 ⟨rfl, rfl⟩
              go_wp2_with fail
              refine (HHh _).out.mono ?_
              rintro e w2 ⟨rfl, rfl⟩
              go_wp2
              go_meet
              exact ⟨by rw [hNO.out, hX.out, hv.out]; rfl, rfl⟩
            · have hv : Hid ((decide (0 ≤ s.n) && decide (s.n ≤ 4294967295)) = true) := by show _ = _; simp; omega
              have z1 : decide (s.n < 0) = false := decide_eq_false (by omega)
              have z2 : decide (4294967295 < s.n) = false := decide_eq_false (by omega)
              clear hz hy
              go_wp2_with fail
              refine (HHn _).out.mono ?_
              rintro e w2 ⟨rfl, rfl⟩
              go_wp2_with fail
              refine (HHh _).out.mono ?_
              rintro e w2 ⟨rfl, rfl⟩
              go_wp2_with fail
              refine (HHn _).out.mono ?_
              rintro e w2 ⟨rfl, rfl⟩
              go_wp2_with fail
              refine (HHh _).out.mono ?_
              rintro e w2 ⟨rfl, rfl⟩
              go_wp2
              go_meet
              exact ⟨by rw [hNO.out, hX.out, hv.out]; rfl, rfl⟩
        · obtain rfl := hnh.out rfl
          have hX : Hid ((if true = true then n1 else if false = true then decide (0 ≤ s.n) && decide (s.n ≤ 4294967295) else s.n == 0) = n1) := rfl
          go_wp2_with fail
          refine (HHn _).out.mono ?_
          rintro e w2 ⟨rfl, rfl⟩
          go_wp2_with fail
          refine (HN1 _).out.mono ?_
          rintro e w2 ⟨rfl, rfl⟩
          cases n1
          · go_wp2
            go_meet
            exact ⟨by rw [hNO.out, hX.out]; rfl, rfl⟩
          · go_wp2_with fail
            refine (HHh _).out.mono ?_
            rintro e w2 ⟨rfl, rfl⟩
            go_wp2_with fail
            refine (HHn _).out.mono ?_
            rintro e w2 ⟨rfl, rfl⟩
            go_wp2
            go_meet
            exact ⟨by rw [hNO.out, hX.out]; rfl, rfl⟩
      case rest =>
        obtain ⟨rfl, rfl⟩ := hcut
        generalize nOk p s.n = b1 at *
        cases b1
        · go_wp2
          go_ret
          exact ⟨by rw [HRT.out]; simp, HK2.out⟩
        · have H115 := fun W => HH 115 (by decide) W
          have H119 := fun W => HH 119 (by decide) W
          have hhc : ((115 : Nat) : Int) = 115 := rfl
          rw [hhc] at H115
          have hhd : ((119 : Nat) : Int) = 119 := rfl
          rw [hhd] at H119
          clear hhc hhd HH hnh
          unfold maxLen at hls hlw
          rw [Bool.not_true]
          go_wp2
          go_loopw [5] (fun v5 wr => ∃ k : Nat, k ≤ s.secs.length ∧ v5 = .int .i64 (k : Int) ∧ (∀ j, j < k → (h : j < s.secs.length) → secB s.secs[j] = true) ∧ w1 = wr) (fun v5 _ => s.secs.length - (intOf v5).toNat)
          case atStart => exact ⟨0, Nat.zero_le _, rfl, fun j h => absurd h (by omega), rfl⟩
          case round =>
            obtain ⟨k, hk, rfl, hall, rfl⟩ := hrel
            by_cases hlt : k < s.secs.length
            · obtain ⟨sb, so, hsa, hcs⟩ := HSec (by omega)
              obtain ⟨q1, q2, q3⟩ := hcs k hlt
              have p0 : (0 : Int) ≤ (k : Int) := by omega
              have p1 : (k : Int) < (s.secs.length : Int) := by omega
              have hbad : Hid (secB s.secs[k] = false → rightP s = false) := fun hb => by
                have : s.secs.all secB = false := by
                  rw [List.all_eq_false]
                  exact ⟨_, List.getElem_mem hlt, by rw [hb]; decide⟩
                rw [HRT.out, this]
                simp
              have hnx : Hid (secB s.secs[k] = true → ∀ j, j < k + 1 → (h : j < s.secs.length) → secB s.secs[j] = true) := fun hb j hj h => by
                rcases Nat.lt_or_ge j k with hjk | hjk
                · exact hall j hjk h
                · obtain rfl : j = k := by omega
                  exact hb
              have N1 := fun W => HN s.secs[k].res W
              have N2 := fun W => HN s.secs[k].frm W
              have N3 := fun W => HN s.secs[k].to W
              have hsb : Hid (secB s.secs[k] = (numB s.secs[k].res && numB s.secs[k].frm && numB s.secs[k].to)) := rfl
              generalize secB s.secs[k] = sbk at *
              generalize numB s.secs[k].res = n1 at *
              generalize numB s.secs[k].frm = n2 at *
              generalize numB s.secs[k].to = n3 at *
              rw [hsa] at f3
              clear hall hcs HRT HSec HN hsa
              generalize s.secs[k] = x at *
              go_wp2_with fail
              refine (N1 _).out.mono ?_
              rintro e w2 ⟨rfl, rfl⟩
              cases n1
              · go_wp2
                go_ret
                exact ⟨by rw [hbad.out (by rw [hsb.out]; rfl)]; rfl, HK2.out⟩
              · go_wp2_with fail
                refine (N2 _).out.mono ?_
                rintro e w2 ⟨rfl, rfl⟩
                cases n2
                · go_wp2
                  go_ret
                  exact ⟨by rw [hbad.out (by rw [hsb.out]; rfl)]; rfl, HK2.out⟩
                · go_wp2_with fail
                  refine (N3 _).out.mono ?_
                  rintro e w2 ⟨rfl, rfl⟩
                  cases n3
                  · go_wp2
                    go_ret
                    exact ⟨by rw [hbad.out (by rw [hsb.out]; rfl)]; rfl, HK2.out⟩
                  · go_wp2
                    go_roundw
                    case rel => exact ⟨k + 1, by omega, by go_num, hnx.out (by rw [hsb.out]; rfl), trivial⟩
                    case measure => simp [intOf]; omega
            · have hA : s.secs.all secB = true := by
                rw [List.all_eq_true]
                intro x hx
                obtain ⟨j, hj, rfl⟩ := List.getElem_of_mem hx
                exact hall j (by omega) hj
              rw [hA] at HRT
              obtain rfl : k = s.secs.length := by omega
              clear hall hA HN HSec hlt hk
              generalize hasB p 115 = h5 at *
              generalize hasB p 119 = h9 at *
              have hs1 : Hid ((s.secs.length == 0) = ((s.secs.length : Int) == 0)) := by show _ = _; rw [Bool.eq_iff_iff, beq_iff_eq, beq_iff_eq]; omega
              have hw1 : Hid ((s.words.length == 0) = ((s.words.length : Int) == 0)) := by show _ = _; rw [Bool.eq_iff_iff, beq_iff_eq, beq_iff_eq]; omega
              rw [hs1.out, hw1.out] at HRT
              have hcs : ((s.secs.length : Int) == 0) = true ∨ ((s.secs.length : Int) == 0) = false := by cases ((s.secs.length : Int) == 0) <;> simp
              have hcw : ((s.words.length : Int) == 0) = true ∨ ((s.words.length : Int) == 0) = false := by cases ((s.words.length : Int) == 0) <;> simp
              go_wp2_with fail
              refine (H115 _).out.mono ?_
              rintro e w2 ⟨rfl, rfl⟩
              rcases hcs with hs0 | hs0 <;> rcases hcw with hw0 | hw0 <;> rw [hs0, hw0] at HRT <;> cases h5
              all_goals
                first
                | (go_wp2; go_ret; exact ⟨by rw [HRT.out]; rfl, HK2.out⟩)
                | (go_wp2_with fail; refine (H119 _).out.mono ?_; rintro e w2 ⟨rfl, rfl⟩; cases h9 <;> (go_wp2; go_ret; exact ⟨by rw [HRT.out]; rfl, HK2.out⟩))
    · go_wp2
      go_ret
      exact ⟨by rw [HRT.out]; simp, HK2.out⟩
end Go.Proofs.Ytoepkhkaifgddaa
