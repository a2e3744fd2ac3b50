/- digits.Lines as an iterator: it hands on the lines of a text; it writes the text's own variable. No condition. Lines, numbered from 1 on. -/
import Derived.Test.YtoepkhkaifgddaaDigSuf
import Derived.Test.YtoepkhkaifgddaaRangeB
import Derived.Test.YtoepkhkaifgddaaDigPcs
namespace Go.Proofs.Ytoepkhkaifgddaa
open Go.RowKit
attribute [local go_sem] Oper.semAt_some

def boxLen (w : World) (B : Nat) : Nat := match w.cell? ⟨B, 0, none⟩ with | some (.string t) => t.size | _ => 0
theorem boxLen_eq {w : World} {B : Nat} {t : ByteArray} (h : Blk w B 9 #[.string t]) : boxLen w B = t.size := by
  have := h.cell 0
  simp at this
  unfold boxLen
  rw [this]
theorem toList_nil (t : ByteArray) : (t.toList == []) = decide (t.size = 0) := by
  rw [ByteArray.toList_eq]
  have e : t.size = t.data.toList.length := by rw [Array.length_toList]; rfl
  rw [e]
  cases t.data.toList with
  | nil => rfl
  | cons a b => simp
theorem endOf_hit {p : UInt8 → Bool} {t : ByteArray} {j : Nat} (h : j < t.size) (hp : p t[j] = true) (hall : ∀ i, (h : i < j) → ∀ h2 : i < t.size, p (t[i]'h2) = false) : endOf p t 0 = j :=
  endOf_eq (Nat.zero_le _) (by omega) (.inr ⟨h, hp⟩) (fun i _ hi => hall i hi _)
theorem endOf_none {p : UInt8 → Bool} {t : ByteArray} (hall : ∀ i, (h : i < t.size) → p t[i] = false) : endOf p t 0 = t.size :=
  endOf_eq (Nat.zero_le _) (Nat.le_refl _) (.inl rfl) (fun i _ hi => hall i hi)
theorem ownT_keep0 {β : Type} {B : Nat} {Lo : Nat → Obj → Prop} {I : β → World → Prop} (h : OwnT B Lo I) {s : β} {W W' : World} (hs : I s W) (k : Keep [] W W') : I s W' :=
  h s W W' none hs ⟨k.os, k.tape, k.output, k.size, fun i hi _ => k.block i hi (by simp)⟩ (fun r e => by cases e)
theorem lines_any (s : ByteArray) (w : World) : Calls Try.prog 31 #[.string s] w fun e w' =>
    e = .returned (.func (.func 65) #[] #[.pointer (some ⟨w.heap.size, 0, none⟩)]) ∧ w.alloc (.cells #[.string s] 9) = w' := by
  go_enter Try.func31, Try.ntmps31
  go_wp2
  go_ret
  exact ⟨rfl, rfl⟩
theorem byte_eq (c d : UInt8) : ((c.toNat : Int) == (d.toNat : Int)) = (c == d) := by
  rw [Bool.eq_iff_iff]
  simp only [beq_iff_eq]
  exact ⟨fun h => UInt8.toNat_inj.1 (by omega), fun h => by rw [h]⟩
theorem num_prefix {l m : List ByteArray} (h : l <+: m) : ∀ i, number i l <+: number i m := by
  obtain ⟨r, rfl⟩ := h
  intro i
  induction l generalizing i with
  | nil => exact List.nil_prefix
  | cons a l ih => exact List.prefix_cons_iff.2 (.inr ⟨_, rfl, ih (i + 1)⟩)

set_option maxRecDepth 100000 in
set_option maxHeartbeats 2000000 in
theorem lines1_seq (n : Nat) (s : ByteArray) (B : Nat) (w : World) (hB : B < w.heap.size) (hb : Blk w B 9 #[.string s]) (hs : s.size ≤ 1000000) :
    SeqT Fence.wide n Try.prog (fun r _ => r = B) 65 #[.pointer (some ⟨B, 0, none⟩)] encNS (Same [B]) (number 1 (linesT s)) w := by
  intro l J Jx W hW hge hJ hJx hY h0
  have hYm : ∀ m pre x W1, J pre W1 → pre ++ [x] <+: number 1 (linesT s) → YieldAt Fence.wide m Try.prog l (encNS x) W1 fun e W' => (e = .returned (.bool true) ∧ J (pre ++ [x]) W' ∧ Same [B] W1 W') ∨ (e = .returned (.bool false) ∧ Jx (pre ++ [x]) W' ∧ Same [B] W1 W') :=
    fun m pre x W1 hj hp => yieldAt_any open_wide (hY pre x W1 hj hp)
  have hbW : Blk W B 9 #[.string s] := (hW.block B hB).trans hb
  clear hY
  rw [callsIn_wide, ← callsIn_wide (n := 9)]
  refine callsIn_of_wp Try.func65 rfl trivial ?_ rfl
  simp only [Try.ntmps65, List.size_toArray, List.length_cons, List.length_nil, Nat.reduceAdd, Nat.reduceSub, Array.replicate_succ, Array.replicate_zero, List.push_toArray, List.append_toArray, List.nil_append, List.cons_append]
  gi_wp2
  gi_loopw [3] (fun vn wr => ∃ (done : List ByteArray) (t : ByteArray) (d : Nat), Hid (d = 1 + done.length) ∧ vn = .int .i64 (d : Int) ∧ J (number 1 done) wr ∧ Blk wr B 9 #[.string t] ∧ done ++ linesT t = linesT s ∧ done.length + t.size ≤ s.size) (fun _ wr => boxLen wr B)
  case atStart => exact ⟨[], s, 1, rfl, rfl, h0, hbW, rfl, by simp⟩
  case round =>
    obtain ⟨done, t, d, hd, rfl, hj, hbt, hdl, hdz⟩ := hrel
    have hdb : d ≤ s.size + 1 := by have := hd.out; omega
    have hbl := boxLen_eq hbt
    have ct := hbt.cell 0
    have cf := hbt.frozen 0
    simp at ct
    by_cases ht0 : t.size = 0
    · have hne : (t.toList == []) = true := by rw [toList_nil, decide_eq_true ht0]
      have HE : Hid (done = linesT s) := by show _ = _; rw [← hdl, linesT_nil ht0, List.append_nil]
      gi_wp2
      go_end0
      exact ⟨⟨_, rfl⟩, .inl (by rw [← HE.out]; exact hj)⟩
    · have hne : (t.toList == []) = false := by rw [toList_nil, decide_eq_false ht0]
      have HDL := Lib.hid hdl
      have HLC := Lib.hid (linesT_cons (t := t) (by omega))
      have hRL := restNl_lt t (by omega)
      clear hdl
      gi_wp2
      obtain ⟨wo, hwo⟩ : ∃ wo, wr = wo := ⟨_, rfl⟩
      rw [hwo] at hbt ct cf hj ⊢
      have HWO := Lib.hid hwo
      have HBL := Lib.hid hbl
      clear hwo hbl
      gi_loopw [4, 5, 15] (fun v4 v5 v15 wr => ∃ j : Nat, j ≤ t.size ∧ v4 = .string t ∧ v5 = .string ByteArray.empty ∧ v15 = .int .i64 (j : Int) ∧ wo = wr ∧ ∀ i, (h : i < j) → ∀ h2 : i < t.size, isNl (t[i]'h2) = false) (fun _ _ v _ => t.size - (intOf v).toNat)
      case atStart => exact ⟨0, Nat.zero_le _, rfl, rfl, rfl, rfl, fun i h => by omega⟩
      case round =>
        obtain ⟨j, hj2, rfl, rfl, rfl, rfl, hall⟩ := hrel
        by_cases hlt : j < t.size
        · have hk0 : (0 : Int) ≤ (j : Int) := by omega
          have hk1 : (j : Int) < (t.size : Int) := by omega
          cases hc : isNl t[j]
          · have hb1 : ((t[j].toNat : Int) == 10) = false := (byte_eq t[j] 10).trans hc
            have HA : Hid (∀ i, (h : i < j + 1) → ∀ h2 : i < t.size, isNl (t[i]'h2) = false) := fun i h h2 => by
              by_cases e : i = j
              · subst e; exact hc
              · exact hall i (by omega) h2
            clear hc hall
            gi_wp2
            go_roundw
            case rel => exact ⟨j + 1, by omega, rfl, rfl, by go_num, by trivial, HA.out⟩
            case measure => simp [intOf] <;> omega
          · have hb1 : ((t[j].toNat : Int) == 10) = true := (byte_eq t[j] 10).trans hc
            have he := endOf_hit hlt hc hall
            have HL : Hid (t.extract 0 j = cutNl t) := by show _ = _; unfold cutNl; rw [he, if_pos hlt]
            have HR : Hid (t.extract (j + 1) t.size = restNl t) := by show _ = _; unfold restNl; rw [he, if_pos hlt]
            clear hc hall he
            gi_wp2
            have hF : ∀ w', Keep [] wo w' → w'.cell? ⟨B, 0, none⟩ = some (.string t) := fun w' hk => by
              have := (hbt.keep hk (by simp)).cell 0
              simpa using this
            have hk2 : (j : Int) + 1 ≤ (t.size : Int) := by omega
            have hk3 : (0 : Int) ≤ (j : Int) + 1 := by omega
            have hk4 : ((j : Int) + 1).toNat = j + 1 := by omega
            have hk5 : IntKind.i64.wrap ((j : Int) + 1) = (j : Int) + 1 := IntWalk.i64_in _ (by omega)
            refine region_in_flow (Keep [] wo) open_wide rfl rfl (by kernel_rfl) (Keep.refl _ _).drew ?_
            repeat (refine fl_val (v := ?_) (by rfl) ?_ ?_; rotate_left; (intro w' hS; have f1 := hF w' hS; go_simp; with_reducible rfl); simp only [Act.put, List.setIfInBounds_toArray, List.set_cons_zero, List.set_cons_succ])
            refine fl_nil ?_
            intro w' hS
            have bt := hbt.keep hS (by simp)
            have jt := ownT_keep0 hJ hj hS
            have cq := bt.cell 0
            have cqf := bt.frozen 0
            simp at cq
            clear hF hk2 hk3 hk4 hk5 ct cf
            have hLs : (t.extract 0 j).size ≤ 1000000 := by rw [ByteArray.size_extract]; omega
            generalize t.extract 0 j = LL at *
            generalize t.extract (j + 1) t.size = RR at *
            have HLL := HL
            have HRR := HR
            generalize w' = WC at *
            gi_wp2
            have b3 := bt.set_ 0 (.string RR)
            have j3 := hJ.set (.string RR) jt bt rfl rfl
            generalize World.setCell WC ⟨B, 0, none⟩ (.string RR) = w3 at *
            gi_loopw [4, 33] (fun v4 v33 wr => ∃ c : Nat, c ≤ LL.size ∧ v4 = .string LL ∧ v33 = .int .i64 (c : Int) ∧ w3 = wr ∧ ∀ i, (h : i < c) → ∀ h2 : i < LL.size, isHash (LL[i]'h2) = false) (fun _ v _ => LL.size - (intOf v).toNat)
            case atStart => exact ⟨0, Nat.zero_le _, rfl, rfl, rfl, fun i h => by omega⟩
            case round =>
              obtain ⟨c, hc2, rfl, rfl, rfl, hall⟩ := hrel
              by_cases hlc : c < LL.size
              · have hk0 : (0 : Int) ≤ (c : Int) := by omega
                have hk1 : (c : Int) < (LL.size : Int) := by omega
                cases hc : isHash LL[c]
                · have hb1 : ((LL[c].toNat : Int) == 35) = false := (byte_eq LL[c] 35).trans hc
                  have HA : Hid (∀ i, (h : i < c + 1) → ∀ h2 : i < LL.size, isHash (LL[i]'h2) = false) := fun i h h2 => by
                    by_cases e : i = c
                    · subst e; exact hc
                    · exact hall i (by omega) h2
                  clear hc hall
                  gi_wp2
                  go_roundw
                  case rel => exact ⟨c + 1, by omega, rfl, by go_num, by trivial, HA.out⟩
                  case measure => simp [intOf] <;> omega
                · have hb1 : ((LL[c].toNat : Int) == 35) = true := (byte_eq LL[c] 35).trans hc
                  have he := endOf_hit hlc hc hall
                  clear hc hall
                  have HX : Hid (LL.extract 0 c = cutHash (cutNl t)) := by show _ = _; rw [← HLL.out]; unfold cutHash; rw [he, if_pos hlc]
                  have hpre : number 1 done ++ [((d : Int), LL.extract 0 c)] <+: number 1 (linesT s) := by
                    rw [hd.out, ← number_snoc, HX.out, ← HDL.out, HLC.out]
                    exact num_prefix ⟨linesT (restNl t), by simp⟩ 1
                  have HPRE := Lib.hid hpre
                  obtain ⟨fn, tmps, assign, body, hy, hR⟩ := hYm 8 _ _ w3 j3 hpre
                  dsimp only [encNS] at hy
                  clear hpre
                  gi_wp2
                  refine hR.mono ?_
                  rintro e w4 (⟨rfl, j4, k4⟩ | ⟨rfl, jx, k4⟩)
                  · have b4 : Blk w4 B 9 #[.string RR] := (k4 B (by simp)).trans b3
                    have hbl4 := boxLen_eq b4
                    have HNX : Hid (number 1 (done ++ [LL.extract 0 c]) = number 1 done ++ [((d : Int), LL.extract 0 c)]) := by show _ = _; rw [hd.out]; exact number_snoc _ _ _
                    have hz := hRL
                    rw [← HRR.out] at hz
                    gi_wp2
                    go_roundw
                    case rel => exact ⟨done ++ [LL.extract 0 c], RR, d + 1, by show _ = _; rw [hd.out, List.length_append, List.length_singleton]; omega, by go_num, by rw [HNX.out]; exact j4, b4, by rw [HX.out, HRR.out, ← HDL.out, HLC.out]; simp, by rw [List.length_append, List.length_singleton]; omega⟩
                    case measure =>
                      show boxLen w4 B < _
                      rw [hbl4, HBL.out]
                      exact hz
                  · gi_wp2
                    refine bodyPost_ret (results_none rfl _ _ _) rfl ?_
                    exact ⟨⟨_, rfl⟩, .inr ⟨_, HPRE.out, jx⟩⟩
              · obtain rfl : c = LL.size := by omega
                have he := endOf_none (p := isHash) (t := LL) (fun i h => hall i h h)
                clear hall
                have HX : Hid (LL = cutHash (cutNl t)) := by show _ = _; rw [← HLL.out]; unfold cutHash; rw [he, if_neg (by omega)]
                have hpre : number 1 done ++ [((d : Int), LL)] <+: number 1 (linesT s) := by
                  rw [hd.out, ← number_snoc, HX.out, ← HDL.out, HLC.out]
                  exact num_prefix ⟨linesT (restNl t), by simp⟩ 1
                have HPRE := Lib.hid hpre
                obtain ⟨fn, tmps, assign, body, hy, hR⟩ := hYm 8 _ _ w3 j3 hpre
                dsimp only [encNS] at hy
                clear hpre
                gi_wp2
                refine hR.mono ?_
                rintro e w4 (⟨rfl, j4, k4⟩ | ⟨rfl, jx, k4⟩)
                · have b4 : Blk w4 B 9 #[.string RR] := (k4 B (by simp)).trans b3
                  have hbl4 := boxLen_eq b4
                  have HNX : Hid (number 1 (done ++ [LL]) = number 1 done ++ [((d : Int), LL)]) := by show _ = _; rw [hd.out]; exact number_snoc _ _ _
                  have hz := hRL
                  rw [← HRR.out] at hz
                  gi_wp2
                  go_roundw
                  case rel => exact ⟨done ++ [LL], RR, d + 1, by show _ = _; rw [hd.out, List.length_append, List.length_singleton]; omega, by go_num, by rw [HNX.out]; exact j4, b4, by rw [HX.out, HRR.out, ← HDL.out, HLC.out]; simp, by rw [List.length_append, List.length_singleton]; omega⟩
                  case measure =>
                    show boxLen w4 B < _
                    rw [hbl4, HBL.out]
                    exact hz
                · gi_wp2
                  refine bodyPost_ret (results_none rfl _ _ _) rfl ?_
                  exact ⟨⟨_, rfl⟩, .inr ⟨_, HPRE.out, jx⟩⟩
        · obtain rfl : j = t.size := by omega
          have he := endOf_none (p := isNl) (t := t) (fun i h => hall i h h)
          have HL : Hid (t = cutNl t) := by show _ = _; unfold cutNl; rw [he, if_neg (by omega)]
          have HR : Hid (ByteArray.empty = restNl t) := by show _ = _; unfold restNl; rw [he, if_neg (by omega)]
          clear hall he
          have bt := hbt
          have jt := hj
          have HLL := HL
          have HRR := HR
          gi_wp2
          have b3 := bt.set_ 0 (.string ByteArray.empty)
          have j3 := hJ.set (.string ByteArray.empty) jt bt rfl rfl
          generalize World.setCell wo ⟨B, 0, none⟩ (.string ByteArray.empty) = w3 at *
          gi_loopw [4, 33] (fun v4 v33 wr => ∃ c : Nat, c ≤ t.size ∧ v4 = .string t ∧ v33 = .int .i64 (c : Int) ∧ w3 = wr ∧ ∀ i, (h : i < c) → ∀ h2 : i < t.size, isHash (t[i]'h2) = false) (fun _ v _ => t.size - (intOf v).toNat)
          case atStart => exact ⟨0, Nat.zero_le _, rfl, rfl, rfl, fun i h => by omega⟩
          case round =>
            obtain ⟨c, hc2, rfl, rfl, rfl, hall⟩ := hrel
            by_cases hlc : c < t.size
            · have hk0 : (0 : Int) ≤ (c : Int) := by omega
              have hk1 : (c : Int) < (t.size : Int) := by omega
              cases hc : isHash t[c]
              · have hb1 : ((t[c].toNat : Int) == 35) = false := (byte_eq t[c] 35).trans hc
                have HA : Hid (∀ i, (h : i < c + 1) → ∀ h2 : i < t.size, isHash (t[i]'h2) = false) := fun i h h2 => by
                  by_cases e : i = c
                  · subst e; exact hc
                  · exact hall i (by omega) h2
                clear hc hall
                gi_wp2
                go_roundw
                case rel => exact ⟨c + 1, by omega, rfl, by go_num, by trivial, HA.out⟩
                case measure => simp [intOf] <;> omega
              · have hb1 : ((t[c].toNat : Int) == 35) = true := (byte_eq t[c] 35).trans hc
                have he := endOf_hit hlc hc hall
                clear hc hall
                have HX : Hid (t.extract 0 c = cutHash (cutNl t)) := by show _ = _; rw [← HLL.out]; unfold cutHash; rw [he, if_pos hlc]
                have hpre : number 1 done ++ [((d : Int), t.extract 0 c)] <+: number 1 (linesT s) := by
                  rw [hd.out, ← number_snoc, HX.out, ← HDL.out, HLC.out]
                  exact num_prefix ⟨linesT (restNl t), by simp⟩ 1
                have HPRE := Lib.hid hpre
                obtain ⟨fn, tmps, assign, body, hy, hR⟩ := hYm 8 _ _ w3 j3 hpre
                dsimp only [encNS] at hy
                clear hpre
                gi_wp2
                refine hR.mono ?_
                rintro e w4 (⟨rfl, j4, k4⟩ | ⟨rfl, jx, k4⟩)
                · have b4 : Blk w4 B 9 #[.string ByteArray.empty] := (k4 B (by simp)).trans b3
                  have hbl4 := boxLen_eq b4
                  have HNX : Hid (number 1 (done ++ [t.extract 0 c]) = number 1 done ++ [((d : Int), t.extract 0 c)]) := by show _ = _; rw [hd.out]; exact number_snoc _ _ _
                  have hz := hRL
                  rw [← HRR.out] at hz
                  gi_wp2
                  go_roundw
                  case rel => exact ⟨done ++ [t.extract 0 c], ByteArray.empty, d + 1, by show _ = _; rw [hd.out, List.length_append, List.length_singleton]; omega, by go_num, by rw [HNX.out]; exact j4, b4, by rw [HX.out, HRR.out, ← HDL.out, HLC.out]; simp, by rw [List.length_append, List.length_singleton]; omega⟩
                  case measure =>
                    show boxLen w4 B < _
                    rw [hbl4, HBL.out]
                    exact hz
                · gi_wp2
                  refine bodyPost_ret (results_none rfl _ _ _) rfl ?_
                  exact ⟨⟨_, rfl⟩, .inr ⟨_, HPRE.out, jx⟩⟩
            · obtain rfl : c = t.size := by omega
              have he := endOf_none (p := isHash) (t := t) (fun i h => hall i h h)
              clear hall
              have HX : Hid (t = cutHash (cutNl t)) := by show _ = _; rw [← HLL.out]; unfold cutHash; rw [he, if_neg (by omega)]
              have hpre : number 1 done ++ [((d : Int), t)] <+: number 1 (linesT s) := by
                rw [hd.out, ← number_snoc, HX.out, ← HDL.out, HLC.out]
                exact num_prefix ⟨linesT (restNl t), by simp⟩ 1
              have HPRE := Lib.hid hpre
              obtain ⟨fn, tmps, assign, body, hy, hR⟩ := hYm 8 _ _ w3 j3 hpre
              dsimp only [encNS] at hy
              clear hpre
              gi_wp2
              refine hR.mono ?_
              rintro e w4 (⟨rfl, j4, k4⟩ | ⟨rfl, jx, k4⟩)
              · have b4 : Blk w4 B 9 #[.string ByteArray.empty] := (k4 B (by simp)).trans b3
                have hbl4 := boxLen_eq b4
                have HNX : Hid (number 1 (done ++ [t]) = number 1 done ++ [((d : Int), t)]) := by show _ = _; rw [hd.out]; exact number_snoc _ _ _
                have hz := hRL
                rw [← HRR.out] at hz
                gi_wp2
                go_roundw
                case rel => exact ⟨done ++ [t], ByteArray.empty, d + 1, by show _ = _; rw [hd.out, List.length_append, List.length_singleton]; omega, by go_num, by rw [HNX.out]; exact j4, b4, by rw [HX.out, HRR.out, ← HDL.out, HLC.out]; simp, by rw [List.length_append, List.length_singleton]; omega⟩
                case measure =>
                  show boxLen w4 B < _
                  rw [hbl4, HBL.out]
                  exact hz
              · gi_wp2
                refine bodyPost_ret (results_none rfl _ _ _) rfl ?_
                exact ⟨⟨_, rfl⟩, .inr ⟨_, HPRE.out, jx⟩⟩
end Go.Proofs.Ytoepkhkaifgddaa

namespace Go.Proofs.Ytoepkhkaifgddaa
open Go.RowKit
attribute [local go_sem] Oper.semAt_some

theorem linesT_len (s : ByteArray) : (linesT s).length ≤ s.size + 1 := by
  have key : ∀ n t, (linesS n t).length ≤ n := by
    intro n
    induction n with
    | zero => intro t; simp [linesS]
    | succ n ih =>
      intro t
      rw [linesS]
      split
      · simp
      · have := ih (restNl t)
        simp; omega
  have := key s.size s
  unfold linesT
  omega
theorem number_at1 {l : List ByteArray} {q : List NumStr} {x : NumStr} (h : q ++ [x] <+: number 1 l) : x.1 = (q.length : Int) + 1 := by
  obtain ⟨r, hr⟩ := h
  have := number_get l 1 q.length x (by rw [← hr]; simp)
  rw [this]
  omega

end Go.Proofs.Ytoepkhkaifgddaa
