/- ref05: bit, Rises, Falls, Masks: what each answers, walked; pair's Rose and Fell. -/
import Derived.Test.YteanpgkonhdbpaaPair
namespace Go.Proofs.Yteanpgkonhdbpaa
open Go.RowKit

theorem rbit_fact (s k : Nat) : ((((s : Int) / 2 ^ k).tmod 2 == 1) = s.testBit k) := by
  rw [Bool.eq_iff_iff]; exact testBit_tmod s k

set_option maxRecDepth 100000 in
set_option maxHeartbeats 400000 in
theorem rbit_any (s k : Nat) (w : World) (hk : k < 32) :
    Calls Try.prog 140 #[.int .u32 (s : Int), .int .u64 (k : Int)] w fun e w' => e = .returned (.bool (s.testBit k)) ∧ w = w' := by
  go_enter Try.func140, Try.ntmps140
  go_wp2
  go_ret
  exact ⟨by rw [rbit_fact]; rfl, rfl⟩

/-- The low bits. -/
def lowB (t k : Nat) : Nat := t % 2 ^ k
theorem lowB_lt (t k : Nat) : lowB t k < 2 ^ k := Nat.mod_lt _ (Nat.two_pow_pos k)
theorem lowB_succ (t k : Nat) : lowB t (k + 1) = lowB t k + if t.testBit k then 2 ^ k else 0 := by
  unfold lowB
  rw [Nat.pow_succ, Nat.mod_mul, Nat.testBit_eq_decide_div_mod_eq]
  have := Nat.mod_two_eq_zero_or_one (t / 2 ^ k)
  rcases this with h | h <;> simp [h]
theorem lowB_all {t : Nat} (h : t < 4294967296) : lowB t 32 = t := Nat.mod_eq_of_lt h
theorem lowB_zero (t : Nat) : lowB t 0 = 0 := by simp [lowB, Nat.mod_one]
theorem lowB_step (t k : Nat) (hk : k < 32) : ((lowB t k : Int) + 2 ^ k) % 4294967296 = ((lowB t k + 2 ^ k : Nat) : Int) := by
  have h1 := lowB_lt t k
  have h2 : 2 ^ k ≤ 2 ^ 31 := Nat.pow_le_pow_right (by decide) (by omega)
  have e : ((2 : Int) ^ k) = ((2 ^ k : Nat) : Int) := by norm_cast
  rw [e]
  omega

set_option maxRecDepth 100000 in
set_option maxHeartbeats 400000 in
theorem rrises_any (a b : Nat) (w : World) (ha : a < 4294967296) (hb : b < 4294967296) :
    Calls Try.prog 138 #[.int .u32 (a : Int), .int .u32 (b : Int)] w fun e w' => e = .returned (.int .u32 ((a ||| b : Nat) : Int)) ∧ w = w' := by
  go_enter Try.func138, Try.ntmps138
  go_wp2
  go_loop [5, 6] (fun vn vi => ∃ k : Nat, k ≤ 32 ∧ vi = .int .u64 k ∧ vn = .int .u32 (lowB (a ||| b) k : Nat)) (fun _ vi => 32 - (intOf vi).toNat)
  case atStart => exact ⟨0, Nat.zero_le _, rfl, by rw [lowB_zero]; rfl⟩
  case round =>
    obtain ⟨k, hk, rfl, rfl⟩ := hrel
    by_cases hlt : k < 32
    · have HS : Hid (lowB (a ||| b) (k + 1) = lowB (a ||| b) k + if (a ||| b).testBit k then 2 ^ k else 0) := lowB_succ _ _
      have HP : Hid ((2 : Int) ^ k = ((2 ^ k : Nat) : Int)) := by show _ = _; norm_cast
      have hp2 : 2 ^ k ≤ 2147483648 := Nat.pow_le_pow_right (n := 2) (by decide) (show k ≤ 31 by omega)
      have hll := lowB_lt (a ||| b) k
      rw [Nat.testBit_or] at HS
      cases hA : a.testBit k
      · cases hB : b.testBit k
        · have H2 : Hid (lowB (a ||| b) (k + 1) = lowB (a ||| b) k) := by show _ = _; rw [HS.out, hA, hB]; rfl
          go_wp2_with (refine (rbit_any _ _ _ hlt).mono ?_; rintro e w' ⟨rfl, rfl⟩; first | rw [hA] | rw [hB])
          go_round
          case rel => exact ⟨k + 1, by omega, by go_num, by rw [H2.out]⟩
          case measure => simp [intOf] <;> omega
        · have H2 : Hid (lowB (a ||| b) (k + 1) = lowB (a ||| b) k + 2 ^ k) := by show _ = _; rw [HS.out, hA, hB]; rfl
          go_wp2_with (refine (rbit_any _ _ _ hlt).mono ?_; rintro e w' ⟨rfl, rfl⟩; first | rw [hA] | rw [hB])
          go_round
          case rel => exact ⟨k + 1, by omega, by go_num, by rw [H2.out]; exact congrArg (Value.int .u32) (by rw [HP.out]; omega)⟩
          case measure => simp [intOf] <;> omega
      · have H2 : Hid (lowB (a ||| b) (k + 1) = lowB (a ||| b) k + 2 ^ k) := by show _ = _; rw [HS.out, hA]; rfl
        go_wp2_with (refine (rbit_any _ _ _ hlt).mono ?_; rintro e w' ⟨rfl, rfl⟩; first | rw [hA] | rw [hB])
        go_round
        case rel => exact ⟨k + 1, by omega, by go_num, by rw [H2.out]; exact congrArg (Value.int .u32) (by rw [HP.out]; omega)⟩
        case measure => simp [intOf] <;> omega
    · obtain rfl : k = 32 := by omega
      have HL := Lib.hid (lowB_all (Nat.or_lt_two_pow (n := 32) ha hb))
      go_wp2
      go_ret
      exact ⟨congrArg (fun x : Nat => Ending.returned (Value.int .u32 (x : Int))) HL.out, rfl⟩

set_option maxRecDepth 100000 in
set_option maxHeartbeats 600000 in
theorem rfalls_any (a b c : Nat) (w : World) (ha : a < 4294967296) :
    Calls Try.prog 136 #[.int .u32 (a : Int), .int .u32 (b : Int), .int .u32 (c : Int)] w fun e w' => e = .returned (.int .u32 ((a &&& (b ||| c) : Nat) : Int)) ∧ w = w' := by
  have hT : ∀ k, (a &&& (b ||| c)).testBit k = (a.testBit k && (b.testBit k || c.testBit k)) := fun k => by rw [Nat.testBit_and, Nat.testBit_or]
  have hLT : a &&& (b ||| c) < 4294967296 := Nat.lt_of_le_of_lt Nat.and_le_left ha
  generalize a &&& (b ||| c) = t at *
  have HT := Lib.hid hT
  clear hT
  go_enter Try.func136, Try.ntmps136
  go_wp2
  go_loop [7, 8] (fun vn vi => ∃ k : Nat, k ≤ 32 ∧ vi = .int .u64 k ∧ vn = .int .u32 (lowB t k : Nat)) (fun _ vi => 32 - (intOf vi).toNat)
  case atStart => exact ⟨0, Nat.zero_le _, rfl, by rw [lowB_zero]; rfl⟩
  case round =>
    obtain ⟨k, hk, rfl, rfl⟩ := hrel
    by_cases hlt : k < 32
    · have HS : Hid (lowB t (k + 1) = lowB t k + if t.testBit k then 2 ^ k else 0) := lowB_succ _ _
      have HP : Hid ((2 : Int) ^ k = ((2 ^ k : Nat) : Int)) := by show _ = _; norm_cast
      have hp2 : 2 ^ k ≤ 2147483648 := Nat.pow_le_pow_right (n := 2) (by decide) (show k ≤ 31 by omega)
      have hll := lowB_lt t k
      rw [HT.out k] at HS
      cases hA : a.testBit k
      · have H2 : Hid (lowB t (k + 1) = lowB t k) := by show _ = _; rw [HS.out, hA]; rfl
        go_wp2_with (refine (rbit_any _ _ _ hlt).mono ?_; rintro e w' ⟨rfl, rfl⟩; rw [hA])
        go_round
        case rel => exact ⟨k + 1, by omega, by go_num, by rw [H2.out]⟩
        case measure => simp [intOf] <;> omega
      · cases hB : b.testBit k
        · cases hC : c.testBit k
          · have H2 : Hid (lowB t (k + 1) = lowB t k) := by show _ = _; rw [HS.out, hA, hB, hC]; rfl
            go_wp2_with (refine (rbit_any _ _ _ hlt).mono ?_; rintro e w' ⟨rfl, rfl⟩; first | rw [hA] | rw [hB] | rw [hC])
            go_round
            case rel => exact ⟨k + 1, by omega, by go_num, by rw [H2.out]⟩
            case measure => simp [intOf] <;> omega
          · have H2 : Hid (lowB t (k + 1) = lowB t k + 2 ^ k) := by show _ = _; rw [HS.out, hA, hB, hC]; rfl
            go_wp2_with (refine (rbit_any _ _ _ hlt).mono ?_; rintro e w' ⟨rfl, rfl⟩; first | rw [hA] | rw [hB] | rw [hC])
            go_round
            case rel => exact ⟨k + 1, by omega, by go_num, by rw [H2.out]; exact congrArg (Value.int .u32) (by rw [HP.out]; omega)⟩
            case measure => simp [intOf] <;> omega
        · have H2 : Hid (lowB t (k + 1) = lowB t k + 2 ^ k) := by show _ = _; rw [HS.out, hA, hB]; rfl
          go_wp2_with (refine (rbit_any _ _ _ hlt).mono ?_; rintro e w' ⟨rfl, rfl⟩; first | rw [hA] | rw [hB])
          go_round
          case rel => exact ⟨k + 1, by omega, by go_num, by rw [H2.out]; exact congrArg (Value.int .u32) (by rw [HP.out]; omega)⟩
          case measure => simp [intOf] <;> omega
    · obtain rfl : k = 32 := by omega
      have HL := Lib.hid (lowB_all hLT)
      go_wp2
      go_ret
      exact ⟨congrArg (fun x : Nat => Ending.returned (Value.int .u32 (x : Int))) HL.out, rfl⟩

/-- The masks' row from s on. -/
def mSeq (s : Nat) : Nat → Nat
  | 0 => s
  | k + 1 => nextM (mSeq s k)
theorem mSeq_lt {s : Nat} (h : s < 4294967296) : ∀ k, mSeq s k < 4294967296
  | 0 => h
  | k + 1 => nextM_lt (mSeq_lt h k)
abbrev wordsV (l : List Nat) : List Value := l.map (fun x : Nat => Value.int .u32 (x : Int))
def maskL (s n : Nat) : List Nat := (List.range n).map (mSeq s)
theorem maskL_succ (s n : Nat) : maskL s (n + 1) = maskL s n ++ [mSeq s n] := by unfold maskL; rw [List.range_succ, List.map_append]; rfl
theorem maskL_len (s n : Nat) : (maskL s n).length = n := by simp [maskL]
theorem slice_u32 : SliceOf Try.prog 54 33 1 4 := ⟨Try.underlying54, by kernel_rfl, by decide⟩
def OwnW (w w' : World) (v : Value) (l : List Nat) : Prop := w'.ownsRow w.heap.size 33 1 v l.length (wordsV l) ∧ Keep [] w w'
theorem OwnW.nil (w : World) : OwnW w w (.slice none 0 0) [] := ⟨World.ownsRow_nil _ _ _ _, Keep.refl _ _⟩
theorem OwnW.app {w wr w' : World} {v v' : Value} {xs : List Nat} {x : Nat} (h : OwnW w wr v xs) (h1 : w'.ownsRow w.heap.size 33 1 v' (xs.length + 1) (wordsV xs ++ [.int .u32 (x : Int)])) (h2 : Keep v.ownBlock.toList wr w') : OwnW w w' v' (xs ++ [x]) :=
  ⟨by simpa [wordsV] using h1, h.2.trans h2 (fun g hg hlt => by
    have := h.1.lt g (by simpa using hg)
    omega)⟩
def RetWords (w : World) (l : List Nat) (e : Ending) (w' : World) : Prop :=
  ∃ A c, e = .returned (.slice A l.length c) ∧ w'.ownsRow w.heap.size 33 1 (.slice A l.length c) l.length (wordsV l) ∧ Keep [] w w'
theorem OwnW.ret {w w' : World} {v : Value} {l : List Nat} (h : OwnW w w' v l) : RetWords w l (.returned v) w' := by
  obtain ⟨A, c, rfl⟩ := own_shape h.1
  exact ⟨A, c, rfl, h.1, h.2⟩

theorem mask_facts (s : Nat) (hs : s < 4294967296) : bits .xor .u32 (s : Int) ((s : Int) * 8192 % 4294967296) = ((x1 s : Nat) : Int) ∧ bits .xor .u32 (x1 s : Int) ((x1 s : Int) / 131072) = ((x2 (x1 s) : Nat) : Int) ∧
    bits .xor .u32 (x2 (x1 s) : Int) ((x2 (x1 s) : Int) * 32 % 4294967296) = ((nextM s : Nat) : Int) := by
  refine ⟨?_, ?_, ?_⟩
  · have := u32_xor_nat s (shl32 s 13) hs (shl32_lt s 13)
    rw [x1, ← this]; simp [shl32]
  · have := u32_xor_nat (x1 s) (x1 s / 2 ^ 17) (x1_lt hs) (Nat.lt_of_le_of_lt (Nat.div_le_self _ _) (x1_lt hs))
    rw [x2, ← this]; simp
  · have := u32_xor_nat (x2 (x1 s)) (shl32 (x2 (x1 s)) 5) (x2_lt (x1_lt hs)) (shl32_lt _ 5)
    rw [nextM, x3, ← this]; simp [shl32]

set_option maxRecDepth 100000 in
set_option maxHeartbeats 1000000 in
theorem rmasks_any (s n : Nat) (w : World) (hs : s < 4294967296) (hn : n ≤ 100000) :
    Calls Try.prog 137 #[.int .u32 (s : Int), .int .i64 (n : Int)] w (RetWords w (maskL (max s 1) n)) := by
  rcases Nat.eq_zero_or_pos s with h0 | h0
  · have HM : Hid (max s 1 = 1) := by show _ = _; omega
    rw [HM.out]
    subst h0
    have HF := fun k => Lib.hid (mask_facts (mSeq 1 k) (mSeq_lt (by decide) k))
    clear hs
    show Calls Try.prog 137 #[.int .u32 0, .int .i64 (n : Int)] w (RetWords w (maskL 1 n))
    go_enter Try.func137, Try.ntmps137
    go_wp2
    go_loopw [0, 5, 6] (fun vs v vi wr => ∃ k : Nat, k ≤ n ∧ vi = .int .i64 k ∧ vs = .int .u32 (mSeq 1 k : Int) ∧ OwnW w wr v (maskL 1 k)) (fun _ _ vi _ => n - (intOf vi).toNat)
    case atStart => exact ⟨0, Nat.zero_le _, rfl, rfl, OwnW.nil w⟩
    case round =>
      obtain ⟨k, hk, rfl, rfl, hown⟩ := hrel
      by_cases hlt : k < n
      · have hl := maskL_len 1 k
        obtain ⟨f1, f2, f3⟩ := (HF k).out
        have HS := Lib.hid (maskL_succ 1 k)
        have hnx : nextM (mSeq 1 k) = mSeq 1 (k + 1) := rfl
        rw [hnx] at f3
        clear hnx
        go_wp2_with (at_builtin; refine wpList_append_one rfl (.tmp 14) (.tmp 16) 54 rfl slice_u32 hown.1 rfl rfl (us := [.int .u32 (mSeq 1 k : Int)]) rfl (by simp [Value.oneCell']) hown.2.size (by omega) (by unfold maxLen; omega) ?_; intro v' w1 hown1 hgrow1 hat1)
        have R := hown.app hown1 hgrow1
        go_roundw
        case rel => exact ⟨k + 1, by omega, by go_num, rfl, by rw [HS.out]; exact R⟩
        case measure => simp [intOf] <;> omega
      · obtain rfl : k = n := by omega
        have H := Lib.hid hown.ret
        clear hown
        have hl := maskL_len 1 k
        go_wp2
        go_ret
        exact H.out
  · have HM : Hid (max s 1 = s) := by show _ = _; omega
    rw [HM.out]
    have hz : ((s : Int) == 0) = false := by simp; omega
    have HF := fun k => Lib.hid (mask_facts (mSeq s k) (mSeq_lt hs k))
    clear hs
    go_enter Try.func137, Try.ntmps137
    go_wp2
    clear hz h0
    go_loopw [0, 5, 6] (fun vs v vi wr => ∃ k : Nat, k ≤ n ∧ vi = .int .i64 k ∧ vs = .int .u32 (mSeq s k : Int) ∧ OwnW w wr v (maskL s k)) (fun _ _ vi _ => n - (intOf vi).toNat)
    case atStart => exact ⟨0, Nat.zero_le _, rfl, rfl, OwnW.nil w⟩
    case round =>
      obtain ⟨k, hk, rfl, rfl, hown⟩ := hrel
      by_cases hlt : k < n
      · have hl := maskL_len s k
        obtain ⟨f1, f2, f3⟩ := (HF k).out
        have HS := Lib.hid (maskL_succ s k)
        have hnx : nextM (mSeq s k) = mSeq s (k + 1) := rfl
        rw [hnx] at f3
        clear hnx
        go_wp2_with (at_builtin; refine wpList_append_one rfl (.tmp 14) (.tmp 16) 54 rfl slice_u32 hown.1 rfl rfl (us := [.int .u32 (mSeq s k : Int)]) rfl (by simp [Value.oneCell']) hown.2.size (by omega) (by unfold maxLen; omega) ?_; intro v' w1 hown1 hgrow1 hat1)
        have R := hown.app hown1 hgrow1
        go_roundw
        case rel => exact ⟨k + 1, by omega, by go_num, rfl, by rw [HS.out]; exact R⟩
        case measure => simp [intOf] <;> omega
      · obtain rfl : k = n := by omega
        have H := Lib.hid hown.ret
        clear hown
        have hl := maskL_len s k
        go_wp2
        go_ret
        exact H.out

end Go.Proofs.Yteanpgkonhdbpaa
