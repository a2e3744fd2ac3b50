/- Decimal figures as rows of bytes: plain facts. Reading decimal figures: plain facts: what the code's reader and the reference's answer is one and the same. -/
import Derived.Test.YtoepkhkaifgddaaBase
import Derived.Lib.SlBytesRow
namespace Go.Proofs.Ytoepkhkaifgddaa
open Go.RowKit

/-- The last decimal figure of a number, as a byte. -/
def digit (m : Nat) : UInt8 := UInt8.ofNat (48 + m % 10)
/-- The decimal figures of a number. -/
def decL (n : Nat) : List UInt8 := if n < 10 then [digit n] else decL (n / 10) ++ [digit n]
termination_by n
decreasing_by omega
theorem decL_small {n : Nat} (h : n < 10) : decL n = [digit n] := by rw [decL, if_pos h]
theorem decL_big {n : Nat} (h : ¬ n < 10) : decL n = decL (n / 10) ++ [digit n] := by rw [decL, if_neg h]
theorem decL_len : ∀ (k n : Nat), 1 ≤ k → n < 10 ^ k → (decL n).length ≤ k
  | 0, _, h, _ => by omega
  | k + 1, n, _, hn => by
    by_cases h : n < 10
    · rw [decL_small h]; simp
    · rw [decL_big h, List.length_append]
      have hk : 1 ≤ k := by
        rcases Nat.eq_zero_or_pos k with h0 | h0
        · subst h0; simp at hn; omega
        · exact h0
      have := decL_len k (n / 10) hk (by rw [Nat.pow_succ] at hn; omega)
      simp; omega
def clampN (n : Int) : Nat := (min (max n 0) 2147483647).toNat
theorem clampN_le (n : Int) : clampN n ≤ 2147483647 := by unfold clampN; omega
/-- The bytes of a text. -/
abbrev bytesOf (s : ByteArray) : List UInt8 := s.data.toList
theorem bytesOf_len (s : ByteArray) : (bytesOf s).length = s.size := by rw [bytesOf, Array.length_toList]; rfl
theorem toList_beq (a b : ByteArray) : (a.toList == b.toList) = decide (bytesOf a = bytesOf b) := by
  rw [Bool.eq_iff_iff, ByteArray.toList_eq, ByteArray.toList_eq]; simp
def strOf (l : List UInt8) : Value := .string ⟨l.toArray⟩
def bytesV (l : List UInt8) : List Value := l.map (fun u => .int .u8 (u.toNat : Int))
theorem decL_len10 (n : Int) : (decL (clampN n)).length ≤ 10 := decL_len 10 _ (by decide) (by have := clampN_le n; omega)

theorem run_convert_reads {P : Program} {w : World} {src e dst : TypeId} (hs : P.underlying src = some (.slice e)) (he : P.underlying e = some (.int .u8)) (hd : P.underlying dst = some .string) {A : Option Addr} {n : Nat} (c : Nat) {l : List UInt8}
    (h : Reads w 1 A n (bytesV l)) (hn : 0 < n) : (convert src dst (.slice A n c)).run P w = .ok (strOf l) w := by
  obtain ⟨b, o, rfl, _, hc⟩ := h.2 hn
  have hl : l.length = n := by have := h.1; simpa [bytesV] using this
  subst hl
  exact Lib.run_convert_whole w src e dst hs he hd b o ⟨l.toArray⟩ (fun i hi => by
    have hi' : i < l.length := by have : (ByteArray.mk l.toArray).size = l.length := by simp [ByteArray.size]
                                  omega
    refine hc i _ ?_
    unfold bytesV
    rw [List.getElem?_map, List.getElem?_eq_getElem hi']
    rfl) c
/-- m is what is left of N when the figures bs have been written. -/
def Left (N m : Nat) (bs : List UInt8) : Prop := if m = 0 then decL N = bs else decL N = decL m ++ bs
theorem Left.start (N : Nat) : Left N (N / 10) [digit N] := by
  unfold Left
  by_cases h : N < 10
  · rw [if_pos (by omega), decL_small h]
  · rw [if_neg (by omega), decL_big h]
theorem Left.step {N m : Nat} {bs : List UInt8} (h : Left N m bs) (hm : 0 < m) : Left N (m / 10) (digit m :: bs) := by
  unfold Left at *
  rw [if_neg (by omega)] at h
  by_cases h1 : m < 10
  · rw [if_pos (by omega), h, decL_small h1]; rfl
  · rw [if_neg (by omega), h, decL_big h1, List.append_assoc]; rfl
theorem Left.len {N m : Nat} {bs : List UInt8} (h : Left N m bs) : bs.length ≤ (decL N).length := by
  unfold Left at h
  split at h
  · rw [h]; exact Nat.le_refl _
  · rw [h, List.length_append]; omega
theorem Left.len10 {N m : Nat} {bs : List UInt8} (h : Left N m bs) (hN : N ≤ 2147483647) : bs.length ≤ 10 := Nat.le_trans h.len (decL_len 10 _ (by decide) (by omega))
theorem Left.fin {N : Nat} {bs : List UInt8} (h : Left N 0 bs) : decL N = bs := by simpa [Left] using h
theorem reads_one (w : World) (e : TypeId) (d : UInt8) : Reads (w.alloc (.cells #[.int .u8 (d.toNat : Int)] e)) 1 (some ⟨w.heap.size, 0, none⟩) 1 (bytesV [d]) :=
  ⟨rfl, fun _ => ⟨w.heap.size, 0, rfl, by simp, fun j u hu => by
    rw [Nat.zero_add]
    have := (Blk.new w e #[.int .u8 (d.toNat : Int)]).cell j
    rw [this]
    cases j with
    | zero => simpa [bytesV] using hu
    | succ j => simp [bytesV] at hu⟩⟩
theorem digit_u8 (n : Nat) : ((digit n).toNat : Int) = 48 + (n : Int) % 10 := by
  unfold digit
  have h : (UInt8.ofNat (48 + n % 10)).toNat = 48 + n % 10 := by
    rw [UInt8.toNat_ofNat']
    omega
  rw [h]; omega
theorem size_mk (a : List UInt8) : (ByteArray.mk a.toArray).size = a.length := by simp [ByteArray.size]
theorem run_add_str {P : Program} (t : TypeId) (a b : List UInt8) (hab : a.length + b.length ≤ 1000000000000) (w : World) : (binOp .add t (strOf a) (strOf b)).run P w = .ok (strOf (a ++ b)) w := by
  have h : (ByteArray.mk a.toArray) ++ (ByteArray.mk b.toArray) = ByteArray.mk (a ++ b).toArray := by
    apply ByteArray.ext
    rw [ByteArray.data_append]
    simp
  simp [strOf, binOp, Op.stringOp, h, Sem.run_pure]
  simp only [size_mk]
  omega
theorem run_eql_str {P : Program} (t : TypeId) (a b : List UInt8) (w : World) : (binOp .eql t (strOf a) (strOf b)).run P w = .ok (.bool (decide (a = b))) w := by
  simp [strOf, binOp, Op.stringOp, Sem.run_pure]
  rw [Bool.eq_iff_iff]; simp
theorem run_neq_str {P : Program} (t : TypeId) (a b : List UInt8) (w : World) : (binOp .neq t (strOf a) (strOf b)).run P w = .ok (.bool (!decide (a = b))) w := by
  simp [strOf, binOp, Op.stringOp, Sem.run_pure]
  rw [Bool.eq_iff_iff]; simp
/-- n is cut to N. -/
def Clamped (n : Int) (N : Nat) : Prop := n < 0 ∧ N = 0 ∨ 2147483647 < n ∧ N = 2147483647 ∨ 0 ≤ n ∧ n ≤ 2147483647 ∧ (N : Int) = n
theorem clamped (n : Int) : Clamped n (clampN n) := by unfold Clamped clampN; omega
theorem bytesV_len (l : List UInt8) : (bytesV l).length = l.length := by simp [bytesV]
theorem bytesV_one (l : List UInt8) : ∀ u ∈ bytesV l, u.oneCell' = true := by
  intro u hu
  obtain ⟨_, _, rfl⟩ := List.mem_map.1 hu
  rfl
theorem bytesV_at {l : List UInt8} {j : Nat} (h : j < l.length) : (bytesV l)[j]? = some (.int .u8 (l[j].toNat : Int)) := by
  unfold bytesV
  rw [List.getElem?_map, List.getElem?_eq_getElem h]
  rfl
/-- xs with its first i and its last bytes changed about, those from i to k as they were. -/
def Swapped (xs ys : List UInt8) (i k : Nat) : Prop := ys.length = xs.length ∧ i + k + 1 = xs.length ∧ ∀ j, (hj : j < ys.length) → (hx : j < xs.length) → (hr : xs.length - 1 - j < xs.length) → ys[j] = if j < i ∨ k < j then xs[xs.length - 1 - j] else xs[j]
theorem Swapped.start (xs : List UInt8) (h : 0 < xs.length) : Swapped xs xs 0 (xs.length - 1) :=
  ⟨rfl, by omega, fun j hj hx hr => by rw [if_neg (by omega)]⟩
theorem Swapped.step {xs ys : List UInt8} {i k : Nat} (h : Swapped xs ys i k) (hik : i < k) (hi : i < ys.length) (hk : k < ys.length) : Swapped xs ((ys.set i ys[k]).set k ys[i]) (i + 1) (k - 1) := by
  obtain ⟨h1, h2, h3⟩ := h
  refine ⟨by simp [h1], by omega, fun j hj hx hr => ?_⟩
  have e1 := h3 i hi (by omega) (by omega)
  have e2 := h3 k hk (by omega) (by omega)
  rw [if_neg (by omega)] at e1 e2
  rw [List.getElem_set]
  by_cases a : k = j
  · subst a
    rw [if_pos rfl, if_pos (by omega), e1]
    congr 1; omega
  · rw [if_neg a, List.getElem_set]
    by_cases b : i = j
    · subst b
      rw [if_pos rfl, if_pos (by omega), e2]
      congr 1; omega
    · rw [if_neg b, h3 j (by simpa using hj) hx hr]
      by_cases c : j < i ∨ k < j
      · rw [if_pos c, if_pos (by omega)]
      · rw [if_neg c, if_neg (by omega)]
theorem Swapped.fin {xs ys : List UInt8} {i k : Nat} (h : Swapped xs ys i k) (hik : k ≤ i) : ys = xs.reverse := by
  obtain ⟨h1, h2, h3⟩ := h
  apply List.ext_getElem (by simp [h1])
  intro j hj hj'
  rw [List.getElem_reverse, h3 j hj (by omega) (by omega)]
  split
  · rfl
  · congr 1; omega

theorem decL_ne' (n : Nat) : decL n ≠ [] := by
  by_cases h : n < 10
  · rw [decL_small h]; simp
  · rw [decL_big h]; simp
end Go.Proofs.Ytoepkhkaifgddaa

namespace Go.Proofs.Ytoepkhkaifgddaa
open Go.RowKit

def valI (l : List UInt8) : Int := l.foldl (fun n b => 10 * n + (b.toNat : Int) - 48) 0
theorem valI_nil : valI [] = 0 := rfl
theorem valI_snoc (l : List UInt8) (b : UInt8) : valI (l ++ [b]) = 10 * valI l + (b.toNat : Int) - 48 := by unfold valI; rw [List.foldl_append]; rfl
def isDig (b : UInt8) : Bool := 48 ≤ b.toNat && b.toNat ≤ 57
def allDig (l : List UInt8) : Bool := l.all isDig
theorem allDig_snoc (l : List UInt8) (b : UInt8) : allDig (l ++ [b]) = (allDig l && isDig b) := by simp [allDig]
def bnd : Nat → Int
  | 0 => 0
  | k + 1 => 10 * bnd k + 255
theorem bnd_mono : ∀ {i j : Nat}, i ≤ j → 0 ≤ bnd i ∧ bnd i ≤ bnd j := by
  intro i j h
  have h0 : ∀ k, 0 ≤ bnd k := fun k => by
    induction k with
    | zero => decide
    | succ k ih => unfold bnd; omega
  induction h with
  | refl => exact ⟨h0 _, by omega⟩
  | @step m h ih => exact ⟨h0 _, by have h1 := h0 i; have h2 := ih.2; have h3 := h0 m; have e : bnd m.succ = 10 * bnd m + 255 := rfl; omega⟩
theorem snoc_cases (l : List UInt8) : l = [] ∨ ∃ m b, l = m ++ [b] := by
  rcases List.eq_nil_or_concat l with h | ⟨m, b, h⟩
  · exact .inl h
  · exact .inr ⟨m, b, by rw [h, List.concat_eq_append]⟩
theorem valI_bnd : ∀ (k : Nat) (l : List UInt8), l.length = k → -bnd k ≤ valI l ∧ valI l ≤ bnd k
  | 0, l, h => by
    obtain rfl := List.eq_nil_of_length_eq_zero h
    simp [valI, bnd]
  | k + 1, l, h => by
    rcases snoc_cases l with rfl | ⟨m, b, rfl⟩
    · simp at h
    · have := valI_bnd k m (by simpa using h)
      have hb := b.toNat_lt
      rw [valI_snoc]
      unfold bnd
      omega
theorem valI_10 (l : List UInt8) (h : l.length ≤ 10) : -283333333305 ≤ valI l ∧ valI l ≤ 283333333305 := by
  have h1 := valI_bnd _ l rfl
  have h2 := bnd_mono h
  have h3 : bnd 10 = 283333333305 := by decide
  omega
theorem valI_pos (l : List UInt8) (h : allDig l = true) : 0 ≤ valI l := by
  rcases snoc_cases l with rfl | ⟨m, b, rfl⟩
  · simp [valI]
  · have hlt : m.length < (m ++ [b]).length := by simp
    rw [allDig_snoc] at h
    simp only [Bool.and_eq_true, isDig, decide_eq_true_eq] at h
    have := valI_pos m h.1
    rw [valI_snoc]; omega
termination_by l.length

def lead (l : List UInt8) : Bool := decide (1 < l.length) && l.headD 0 == 48
/-- What digits.Read answers. -/
def readP (l : List UInt8) : Int × Int :=
  if l = [] ∨ 10 < l.length ∨ lead l = true then (0, 10) else if allDig l = true then (if 2147483647 < valI l then (0, 10) else (valI l, 0)) else (0, 10)
/-- What the reference's Read answers. -/
def readR (l : List UInt8) : Int × Int :=
  if valI (l.take 10) < 0 ∨ ¬ decL (clampN (valI (l.take 10))) = l then (0, 10) else (valI (l.take 10), 0)

theorem digit_toNat (n : Nat) : (digit n).toNat = 48 + n % 10 := by have := digit_u8 n; omega
theorem decL_dig : ∀ n, allDig (decL n) = true := by
  intro n
  induction n using Nat.strongRecOn with
  | _ n ih =>
    by_cases h : n < 10
    · rw [decL_small h]; simp [allDig, isDig, digit_toNat]; omega
    · rw [decL_big h, allDig_snoc, ih (n / 10) (by omega)]; simp [isDig, digit_toNat]; omega
theorem decL_val : ∀ n, valI (decL n) = (n : Int) := by
  intro n
  induction n using Nat.strongRecOn with
  | _ n ih =>
    by_cases h : n < 10
    · rw [decL_small h]; simp [valI, digit_toNat]; omega
    · rw [decL_big h, valI_snoc, ih (n / 10) (by omega), digit_toNat]; omega
theorem decL_ne (n : Nat) : decL n ≠ [] := by
  by_cases h : n < 10
  · rw [decL_small h]; simp
  · rw [decL_big h]; simp
theorem headD_append (l m : List UInt8) (h : l ≠ []) : (l ++ m).headD 0 = l.headD 0 := by
  cases l with
  | nil => exact absurd rfl h
  | cons a l => rfl
theorem decL_head : ∀ n, 0 < n → (decL n).headD 0 ≠ 48 := by
  intro n
  induction n using Nat.strongRecOn with
  | _ n ih =>
    intro hn
    by_cases h : n < 10
    · rw [decL_small h]
      intro e
      have : (digit n).toNat = 48 := by simpa using congrArg UInt8.toNat e
      rw [digit_toNat] at this; omega
    · rw [decL_big h, headD_append _ _ (decL_ne _)]
      exact ih (n / 10) (by omega) (by omega)
theorem decL_lead (n : Nat) : lead (decL n) = false := by
  unfold lead
  by_cases h : n < 10
  · rw [decL_small h]; simp
  · have := decL_head n (by omega)
    have e : ((decL n).headD 0 == 48) = false := by simpa using this
    rw [e]; simp
theorem decL_of (l : List UInt8) (hne : l ≠ []) (hd : allDig l = true) (hl : lead l = false) : decL (valI l).toNat = l := by
  rcases snoc_cases l with rfl | ⟨m, b, rfl⟩
  · exact absurd rfl hne
  · rw [allDig_snoc] at hd
    simp only [Bool.and_eq_true, isDig, decide_eq_true_eq] at hd
    have hp := valI_pos m hd.1
    rcases snoc_cases m with rfl | ⟨m', b', rfl⟩
    · rw [valI_snoc, valI_nil, List.nil_append]
      have e : (10 * 0 + (b.toNat : Int) - 48).toNat = b.toNat - 48 := by omega
      rw [e, decL_small (by omega)]
      congr 1
      apply UInt8.toNat_inj.1
      rw [digit_toNat]; omega
    · have hm : m' ++ [b'] ≠ [] := by simp
      have hh : (m' ++ [b']).headD 0 ≠ 48 := by
        intro e
        unfold lead at hl
        rw [headD_append _ _ hm, e] at hl
        simp at hl
      have hl' : lead (m' ++ [b']) = false := by
        unfold lead
        have : ((m' ++ [b']).headD 0 == 48) = false := by simpa using hh
        rw [this]; simp
      have hlt : (m' ++ [b']).length < (m' ++ [b'] ++ [b]).length := by simp
      have ih := decL_of (m' ++ [b']) hm hd.1 hl'
      have hv : 0 < valI (m' ++ [b']) := by
        rcases Int.lt_or_eq_of_le hp with h | h
        · exact h
        · exfalso
          rw [← h] at ih
          have e0 : decL 0 = [digit 0] := decL_small (by decide)
          rw [show (0 : Int).toNat = 0 from rfl, e0] at ih
          apply hh
          rw [← ih]
          rfl
      rw [valI_snoc]
      have e : (10 * valI (m' ++ [b']) + (b.toNat : Int) - 48).toNat = 10 * (valI (m' ++ [b'])).toNat + (b.toNat - 48) := by omega
      have e1 : digit (10 * (valI (m' ++ [b'])).toNat + (b.toNat - 48)) = b := by
        apply UInt8.toNat_inj.1
        rw [digit_toNat]; omega
      rw [e, decL_big (by omega), e1, show (10 * (valI (m' ++ [b'])).toNat + (b.toNat - 48)) / 10 = (valI (m' ++ [b'])).toNat by omega, ih]
termination_by l.length

theorem readP_dec (N : Nat) (hN : N ≤ 2147483647) : readP (decL N) = ((N : Int), 0) := by
  have hl := decL_len 10 N (by decide) (by omega)
  unfold readP
  rw [if_neg, if_pos (decL_dig N), decL_val, if_neg (by omega)]
  rintro (h | h | h)
  · exact decL_ne N h
  · omega
  · rw [decL_lead] at h; cases h
theorem readP_readR (l : List UInt8) : readP l = readR l := by
  have key : (∃ M : Nat, M ≤ 2147483647 ∧ l = decL M) ∨ (readP l = (0, 10) ∧ readR l = (0, 10)) := by
    by_cases hR : valI (l.take 10) < 0 ∨ ¬ decL (clampN (valI (l.take 10))) = l
    · by_cases hP : readP l = (0, 10)
      · exact .inr ⟨hP, by unfold readR; rw [if_pos hR]⟩
      · left
        unfold readP at hP
        by_cases h1 : l = [] ∨ 10 < l.length ∨ lead l = true
        · rw [if_pos h1] at hP; exact absurd rfl hP
        · rw [if_neg h1] at hP
          by_cases h2 : allDig l = true
          · rw [if_pos h2] at hP
            by_cases h3 : 2147483647 < valI l
            · rw [if_pos h3] at hP; exact absurd rfl hP
            · have := valI_pos l h2
              refine ⟨(valI l).toNat, by omega, (decL_of l (fun h => h1 (.inl h)) h2 ?_).symm⟩
              rcases hb : lead l
              · rfl
              · exact absurd (.inr (.inr hb)) h1
          · rw [if_neg h2] at hP; exact absurd rfl hP
    · left
      have h2 : decL (clampN (valI (l.take 10))) = l := Classical.byContradiction (fun h => hR (.inr h))
      exact ⟨_, clampN_le _, h2.symm⟩
  rcases key with ⟨M, hM, rfl⟩ | ⟨h1, h2⟩
  · rw [readP_dec M hM]
    have hl := decL_len 10 M (by decide) (by omega)
    have ht : (decL M).take 10 = decL M := List.take_of_length_le hl
    have hc : clampN (M : Int) = M := by unfold clampN; omega
    unfold readR
    rw [ht, decL_val, hc, if_neg (by rintro (h | h); omega; exact h rfl)]
  · rw [h1, h2]
end Go.Proofs.Ytoepkhkaifgddaa
