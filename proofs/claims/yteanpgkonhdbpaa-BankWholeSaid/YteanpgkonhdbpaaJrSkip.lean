/- A journal's blank places passed over; walked. Condition: the device is one that may be. -/
import Derived.Test.YteanpgkonhdbpaaJrRead2
namespace Go.Proofs.Yteanpgkonhdbpaa
open Go.RowKit

def blankL (l : List Nat) : Bool := l.all (fun x => x == 4294967295)
theorem blankL_slot (d : Dev) (s a : Nat) : blankL (slotL d s a) = blank4 (wdJ d) s a := by
  unfold blankL slotL blank4
  simp [Bool.and_assoc]
set_option maxRecDepth 100000 in
set_option maxHeartbeats 2000000 in
theorem blank_any47 (A : Option Addr) (c : Nat) (l : List Nat) (w : World) (hr : Reads w 1 A l.length (wordsV l)) (hl : l.length ≤ 1000000) :
    Calls Try.prog 98 #[.slice A l.length c] w fun e w' => e = .returned (.bool (blankL l)) ∧ w = w' := by
  have HC : Hid (∀ k, (hk : k < l.length) → ∃ b o, A = some ⟨b, o, none⟩ ∧ w.cell? ⟨b, o + k, none⟩ = some (.int .u32 (l[k] : Int))) := fun k hk => by
    obtain ⟨b, o, e, hb, hc⟩ := hr.addr (by omega)
    exact ⟨b, o, e, hc k _ (by simp [hk])⟩
  have HB : Hid (∀ k, k < l.length → l[k]? ≠ some 4294967295 → blankL l = false) := fun k hk h => by
    unfold blankL
    rw [List.all_eq_false]
    refine ⟨l[k], List.getElem_mem hk, fun e => h ?_⟩
    rw [List.getElem?_eq_getElem hk]
    exact congrArg some (by simpa using e)
  have HT : Hid ((∀ k, (hk : k < l.length) → l[k] = 4294967295) → blankL l = true) := fun h => by
    unfold blankL
    rw [List.all_eq_true]
    intro x hx
    obtain ⟨i, hi, rfl⟩ := List.mem_iff_getElem.1 hx
    rw [h i hi]; rfl
  clear hr
  go_enter Try.func98, Try.ntmps98
  go_wp2
  go_loopw [7] (fun vi wr => ∃ k : Nat, k ≤ l.length ∧ vi = .int .i64 (k : Int) ∧ Hid (∀ i, (hi : i < k) → (hl : i < l.length) → l[i] = 4294967295) ∧ w = wr) (fun vi _ => l.length - (intOf vi).toNat)
  case atStart => exact ⟨0, Nat.zero_le _, rfl, fun i hi => absurd hi (by omega), rfl⟩
  case round =>
    obtain ⟨k, hk, rfl, HP, rfl⟩ := hrel
    by_cases hlt : k < l.length
    · obtain ⟨b, o, rfl, hc⟩ := HC.out k hlt
      have p0 : (0 : Int) ≤ (k : Int) := by omega
      have p1 : (k : Int) < (l.length : Int) := by omega
      by_cases hx : l[k] = 4294967295
      · have hq : ((l[k] : Int) != 4294967295) = false := by rw [hx]; rfl
        have HP2 : Hid (∀ i, (hi : i < k + 1) → (hl : i < l.length) → l[i] = 4294967295) := fun i hi hl' => by
          rcases Nat.lt_succ_iff_lt_or_eq.1 hi with h | h
          · exact HP.out i h hl'
          · subst h; exact hx
        clear hx
        generalize l[k] = x at *
        go_wp2
        go_roundw
        case rel => exact ⟨k + 1, by omega, by go_num, HP2, trivial⟩
        case measure => simp [intOf]; omega
      · have hq : ((l[k] : Int) != 4294967295) = true := by rw [bne_iff_ne]; omega
        have HF : Hid (blankL l = false) := HB.out k hlt (by rw [List.getElem?_eq_getElem hlt]; simpa using hx)
        clear hx
        generalize l[k] = x at *
        go_wp2
        go_ret
        exact ⟨by rw [HF.out]; rfl, rfl⟩
    · have HF : Hid (blankL l = true) := HT.out (fun i hi => HP.out i (by omega) hi)
      have hkl : k = l.length := by omega
      subst hkl
      go_wp2
      go_ret
      exact ⟨by rw [HF.out]; rfl, rfl⟩
theorem slotL_len (d : Dev) (s a : Nat) : (slotL d s a).length = 4 := rfl

set_option maxRecDepth 100000 in
set_option maxHeartbeats 4000000 in
theorem skip_any (gj g b1 b2 : Nat) (d : Dev) (j : JS) (w : World) (hd : DevAt w g b1 b2 d) (ho : d.Ok) (hj : JrAt w gj g j) (hs : j.base + j.sector < d.ns) (ha : j.at_ ≤ d.nw / 4) :
    Calls Try.prog 63 #[.pointer (some ⟨gj, 0, none⟩)] w fun e w' => e = .returned (.tuple #[]) ∧ JrAt w' gj g { j with at_ := skipJ (wdJ d) (j.base + j.sector) (d.nw / 4) (d.nw / 4) j.at_ } ∧ Keep [gj] w w' := by
  have hnw := ho.nw2
  have hgg : gj ≠ g ∧ gj ≠ b1 ∧ gj ≠ b2 := ⟨hj.blk.ne_ hd.dev (by decide), hj.blk.ne_ hd.bits (by decide), hj.blk.ne_ hd.worn (by decide)⟩
  have HD : Hid (∀ W, Keep [gj] w W → DevAt W g b1 b2 d) := fun W hk => hd.keep hk (by simp; exact Ne.symm hgg.1) (by simp; exact Ne.symm hgg.2.1) (by simp; exact Ne.symm hgg.2.2)
  have HO := Lib.hid ho
  have HS := Lib.hid hs
  have hK : d.nw / 4 ≤ 256 := by omega
  generalize hKK : d.nw / 4 = K at *
  clear hd ho hnw
  go_enter Try.func63, Try.ntmps63
  go_wp2
  go_loopw [2] (fun v2 wr => ∃ a : Nat, j.at_ ≤ a ∧ a ≤ K ∧ Hid (∀ b, j.at_ ≤ b → b < a → blank4 (wdJ d) (j.base + j.sector) b = false) ∧ JrAt wr gj g { j with at_ := a } ∧ Keep [gj] w wr) (fun _ wr => K - (intOf ((wr.cell? ⟨gj, 4, none⟩).getD undef)).toNat)
  case atStart => exact ⟨j.at_, Nat.le_refl _, ha, fun b h1 h2 => absurd h1 (by omega), hj, Keep.refl _ _⟩
  case round =>
    obtain ⟨a, hja, hak, HP, hjr, hkw⟩ := hrel
    have HSL : Hid (∀ W, Keep [] wr W → Calls Try.prog 64 #[.pointer (some ⟨gj, 0, none⟩)] W fun e w' => e = .returned (.int .i64 (K : Int)) ∧ Keep [] wr w') := fun W hk => (slots_any gj g b1 b2 d _ W ((HD.out wr hkw).keep0 hk) HO.out (hjr.keep0 hk)).mono fun e w' he => ⟨by rw [he.1, hKK], by rw [← he.2]; exact hk⟩
    have hcw : ∀ W, Keep [] wr W → W.cell? ⟨gj, 3, none⟩ = some (.int .i64 (j.sector : Int)) ∧ W.cell? ⟨gj, 4, none⟩ = some (.int .i64 (a : Int)) := fun W hk => ⟨(hjr.keep0 hk).cells.2.2.2.1, (hjr.keep0 hk).cells.2.2.2.2.1⟩
    have HJ := Lib.hid hjr
    have HKW := Lib.hid hkw
    clear hjr hkw
    by_cases hlt : a < K
    · have hq : decide ((a : Int) < (K : Int)) = true := decide_eq_true (by omega)
      go_upto_region 0 with fail
      refine wp_region_flow_tail 17 (Keep [] wr) rfl (by kernel_rfl) (Keep.refl _ _).drew ?_
      repeat (refine fl_val (v := ?_) (by rfl) ?_ ?_; rotate_left; (intro w' hS; obtain ⟨f1,f2⟩ := hcw w' hS; go_simp; with_reducible rfl); simp only [Act.put, List.setIfInBounds_toArray, List.set_cons_zero, List.set_cons_succ])
      refine fl_call (f := 64) (v := .int .i64 (K : Int)) (by rfl) rfl (by simp only [List.map_toArray, List.map_cons, List.map_nil]; rfl) Try.func64 (by kernel_rfl) (by kernel_rfl) (fun w' hS => HSL.out w' hS) ?_; simp only [Act.put, List.setIfInBounds_toArray, List.set_cons_zero, List.set_cons_succ]
      repeat (refine fl_val (v := ?_) (by rfl) ?_ ?_; rotate_left; (intro w' hS; obtain ⟨f1,f2⟩ := hcw w' hS; go_simp; with_reducible rfl); simp only [Act.put, List.setIfInBounds_toArray, List.set_cons_zero, List.set_cons_succ])
      refine fl_nil ?_
      intro w4 hS4
      have HSO := Lib.hid (slot_any gj g b1 b2 d _ j.sector a w4 ((HD.out wr HKW.out).keep0 hS4) HO.out (HJ.out.keep0 hS4) HS.out (by omega))
      go_wp2_with fail
      refine HSO.out.mono ?_
      rintro e w5 ⟨⟨b5, o5, c5, rfl, hrd⟩, k5⟩
      have HBK := Lib.hid (blank_any47 (some ⟨b5, o5, none⟩) c5 (slotL d (j.base + j.sector) a) w5 hrd (by rw [slotL_len]; omega))
      rw [slotL_len, blankL_slot] at HBK
      have kr5 := Lib.hid (hS4.then k5)
      have hc5 := hcw w5 kr5.out
      obtain ⟨hc3, hc4⟩ := hc5
      have hf4 := (HJ.out.keep0 kr5.out).blk.frozen 4
      have hw5 : IntKind.i64.wrap ((a : Int) + 1) = (a : Int) + 1 := IntWalk.i64_in _ (by omega)
      have HKW5 : Hid (Keep [gj] w w5) := HKW.out.then kr5.out
      have HJ5 := Lib.hid (HJ.out.keep0 kr5.out)
      have hcm : (intOf ((wr.cell? ⟨gj, 4, none⟩).getD undef)).toNat = a := by rw [(hcw wr (Keep.refl _ _)).2]; simp [intOf]
      have HCM := Lib.hid hcm
      clear hrd k5 hS4 HSO hcw HSL hcm
      obtain ⟨bb, hbb⟩ : ∃ bb, blank4 (wdJ d) (j.base + j.sector) a = bb := ⟨_, rfl⟩
      have HBB := Lib.hid hbb
      rw [hbb] at HBK
      clear hbb
      cases bb
      · go_wp2_with (refine HBK.out.mono ?_; clear HBK; rintro e w6 ⟨rfl, rfl⟩)
        go_roundw
        case rel =>
          refine ⟨a + 1, by omega, by omega, fun b h1 h2 => ?_, ⟨?_⟩, HKW5.out.trans (keep_set _ _ _ _) (fun y hy _ => hy)⟩
          · rcases Nat.lt_succ_iff_lt_or_eq.1 h2 with h | h
            · exact HP.out b h1 h
            · rw [h]; exact HBB.out
          · exact HJ5.out.blk.set_ 4 _
        case measure =>
          rw [HCM.out]
          have := (HJ5.out.blk.set_ 4 (.int .i64 ((a : Int) + 1))).cell 4
          simp at this
          rw [this]
          simp [intOf]
          omega
      · go_wp2_with (refine HBK.out.mono ?_; clear HBK; rintro e w6 ⟨rfl, rfl⟩)
        go_end0
        refine ⟨rfl, ?_, HKW5.out⟩
        rw [skipJ_to (u := a) hak (fun _ => HBB.out) K j.at_ hja (by omega) HP.out]
        exact HJ5.out
    · have hq : decide ((a : Int) < (K : Int)) = false := decide_eq_false (by omega)
      go_upto_region 0 with fail
      refine wp_region_flow (Keep [] wr) rfl (by kernel_rfl) (Keep.refl _ _).drew ?_
      repeat (refine fl_val (v := ?_) (by rfl) ?_ ?_; rotate_left; (intro w' hS; obtain ⟨f1,f2⟩ := hcw w' hS; go_simp; with_reducible rfl); simp only [Act.put, List.setIfInBounds_toArray, List.set_cons_zero, List.set_cons_succ])
      refine fl_call (f := 64) (v := .int .i64 (K : Int)) (by rfl) rfl (by simp only [List.map_toArray, List.map_cons, List.map_nil]; rfl) Try.func64 (by kernel_rfl) (by kernel_rfl) (fun w' hS => HSL.out w' hS) ?_; simp only [Act.put, List.setIfInBounds_toArray, List.set_cons_zero, List.set_cons_succ]
      repeat (first | (refine fl_off (by rfl) ?_; simp only [Act.put, List.setIfInBounds_toArray, List.set_cons_zero, List.set_cons_succ]) | (refine fl_val (v := ?_) (by rfl) ?_ ?_; rotate_left; (intro w' hS; obtain ⟨f1,f2⟩ := hcw w' hS; go_simp; with_reducible rfl); simp only [Act.put, List.setIfInBounds_toArray, List.set_cons_zero, List.set_cons_succ]))
      refine fl_nil ?_
      intro w4 hS4
      have HKW5 : Hid (Keep [gj] w w4) := HKW.out.then hS4
      have HJ5 := Lib.hid (HJ.out.keep0 hS4)
      have hka : a = K := by omega
      clear hcw HSL hS4
      go_wp2
      go_end0
      refine ⟨rfl, ?_, HKW5.out⟩
      rw [skipJ_to (u := a) hak (fun h => absurd h (by omega)) K j.at_ hja (by omega) HP.out]
      exact HJ5.out
end Go.Proofs.Yteanpgkonhdbpaa
