/- The sum CRC-32 in plain numbers: bytewise and bitwise it is the same. No condition. The sum CRC-32, walked: the program's (crc) and the document's (ref04). Condition: the sum counts no more than 2^40 bytes. -/
import Derived.Test.YteanpgkonhdbpaaBase
import Derived.Test.YteanpgkonhdbpaaJrSkip
import Derived.Test.YteanpgkonhdbpaaJrStep
import Derived.Test.YteanpgkonhdbpaaRef05
import Derived.Test.YteanpgkonhdbpaaFlow
import Derived.Test.YteanpgkonhdbpaaPend
namespace Go.Proofs.Yteanpgkonhdbpaa

def polyC : Nat := 3988292384
/-- One round of the bytewise way. -/
def rndC (x : Nat) : Nat := if x.testBit 0 then (x / 2) ^^^ polyC else x / 2
def rndsC : Nat → Nat → Nat
  | 0, x => x
  | k + 1, x => rndC (rndsC k x)
def byteC (s b : Nat) : Nat := rndsC 8 (s ^^^ b)
/-- One bit of the document's way. -/
def bitC (s : Nat) (b : Bool) : Nat := if s.testBit 0 != b then (s / 2) ^^^ polyC else s / 2
def bitsC (s b : Nat) : Nat → Nat
  | 0 => s
  | k + 1 => bitC (bitsC s b k) (b.testBit k)
theorem xor_half (x y : Nat) : (x ^^^ y) / 2 = x / 2 ^^^ y / 2 := by
  apply Nat.eq_of_testBit_eq
  intro i
  rw [Nat.testBit_xor, Nat.testBit_div_two, Nat.testBit_div_two, Nat.testBit_div_two, Nat.testBit_xor]
theorem rnds_bits (s b : Nat) : ∀ k, rndsC k (s ^^^ b) = bitsC s b k ^^^ b / 2 ^ k
  | 0 => by simp [rndsC, bitsC]
  | k + 1 => by
    rw [rndsC, rnds_bits s b k, bitsC, rndC, bitC, Nat.testBit_xor, xor_half]
    have hb : (b / 2 ^ k).testBit 0 = b.testBit k := by rw [Nat.testBit_div_two_pow, Nat.zero_add]
    have hd : b / 2 ^ k / 2 = b / 2 ^ (k + 1) := by rw [Nat.div_div_eq_div_mul, Nat.pow_succ]
    rw [hb, hd]
    have hx : ((bitsC s b k).testBit 0 ^^ b.testBit k) = ((bitsC s b k).testBit 0 != b.testBit k) := rfl
    rw [hx]
    split
    · rw [Nat.xor_assoc, Nat.xor_assoc, Nat.xor_comm polyC]
    · rfl
theorem byte_bits (s : Nat) {b : Nat} (hb : b < 256) : byteC s b = bitsC s b 8 := by
  unfold byteC
  rw [rnds_bits]
  have : b / 2 ^ 8 = 0 := Nat.div_eq_of_lt (by simpa using hb)
  rw [this, Nat.xor_zero]
theorem half_lt {x : Nat} (h : x < 4294967296) : x / 2 < 4294967296 := Nat.lt_of_le_of_lt (Nat.div_le_self _ _) h
theorem rndC_lt {x : Nat} (h : x < 4294967296) : rndC x < 4294967296 := by
  unfold rndC
  split
  · exact Nat.xor_lt_two_pow (n := 32) (half_lt h) (by decide)
  · exact half_lt h
theorem rndsC_lt {x : Nat} (h : x < 4294967296) : ∀ k, rndsC k x < 4294967296
  | 0 => h
  | k + 1 => rndC_lt (rndsC_lt h k)
theorem byteC_lt {s b : Nat} (h : s < 4294967296) (hb : b < 4294967296) : byteC s b < 4294967296 := rndsC_lt (Nat.xor_lt_two_pow (n := 32) h hb) 8
theorem bitC_lt {s : Nat} (h : s < 4294967296) (b : Bool) : bitC s b < 4294967296 := by
  unfold bitC
  split
  · exact Nat.xor_lt_two_pow (n := 32) (half_lt h) (by decide)
  · exact half_lt h
theorem bitsC_lt {s : Nat} (h : s < 4294967296) (b : Nat) : ∀ k, bitsC s b k < 4294967296
  | 0 => h
  | k + 1 => bitC_lt (bitsC_lt h b k) _
/-- The four bytes of a word, the highest first. -/
def bytesW (w : Nat) : List Nat := [w / 16777216, w / 65536 % 256, w / 256 % 256, w % 256]
theorem bytesW_lt {w : Nat} (h : w < 4294967296) : ∀ b ∈ bytesW w, b < 256 := by
  intro b hb
  simp only [bytesW, List.mem_cons, List.not_mem_nil, or_false] at hb
  omega
def wordC (s w : Nat) : Nat := (bytesW w).foldl byteC s
def foldC (s : Nat) (l : List Nat) : Nat := l.foldl wordC s
theorem foldB_lt : ∀ (l : List Nat) {s : Nat}, s < 4294967296 → (∀ b ∈ l, b < 256) → l.foldl byteC s < 4294967296
  | [], _, h, _ => h
  | b :: l, s, h, hl => foldB_lt l (byteC_lt h (Nat.lt_trans (hl b (by simp)) (by decide))) (fun x hx => hl x (by simp [hx]))
theorem wordC_lt {s w : Nat} (h : s < 4294967296) (hw : w < 4294967296) : wordC s w < 4294967296 := foldB_lt _ h (bytesW_lt hw)
theorem foldC_lt : ∀ (l : List Nat) {s : Nat}, s < 4294967296 → (∀ w ∈ l, w < 4294967296) → foldC s l < 4294967296
  | [], _, h, _ => h
  | w :: l, s, h, hl => foldC_lt l (wordC_lt h (hl w (by simp))) (fun x hx => hl x (by simp [hx]))
theorem foldC_snoc (s : Nat) (l : List Nat) (w : Nat) : foldC s (l ++ [w]) = wordC (foldC s l) w := by unfold foldC; rw [List.foldl_append]; rfl
/-- All bytes of words. -/
def bytesL (l : List Nat) : List Nat := l.flatMap bytesW
theorem foldC_bytes (s : Nat) (l : List Nat) : foldC s l = (bytesL l).foldl byteC s := by
  unfold foldC bytesL wordC
  rw [List.foldl_flatMap]
/-- The sum of words. -/
def crcL (l : List Nat) : Nat := 4294967295 - foldC 4294967295 l
end Go.Proofs.Yteanpgkonhdbpaa

namespace Go.Proofs.Yteanpgkonhdbpaa
open Go.RowKit

/-- The two cells of a sum, somewhere in a block. -/
def sumSet (cs : Array Value) (o : Nat) (s m : Nat) : Array Value := (cs.setIfInBounds o (.int .u32 ((cplJ s : Nat) : Int))).setIfInBounds (o + 1) (.int .i64 (m : Int))
theorem sumSet_size (cs : Array Value) (o s m : Nat) : (sumSet cs o s m).size = cs.size := by simp [sumSet]
theorem sumSet_set (cs : Array Value) (o s m s' m' : Nat) : sumSet (sumSet cs o s m) o s' m' = sumSet cs o s' m' := by
  apply Array.ext_getElem?
  intro i
  unfold sumSet
  simp only [Array.getElem?_setIfInBounds, Array.size_setIfInBounds]
  by_cases h1 : o + 1 = i
  · simp [h1]
  · by_cases h2 : o = i
    · simp [h2]
    · simp [h1, h2]
theorem sumSet_0 {cs : Array Value} {o : Nat} (h : o + 1 < cs.size) (s m : Nat) : (sumSet cs o s m)[o]? = some (.int .u32 ((cplJ s : Nat) : Int)) := by
  unfold sumSet
  rw [Array.getElem?_setIfInBounds, if_neg (by omega), Array.getElem?_setIfInBounds, if_pos rfl, if_pos (by omega)]
theorem sumSet_1 {cs : Array Value} {o : Nat} (h : o + 1 < cs.size) (s m : Nat) : (sumSet cs o s m)[o + 1]? = some (.int .i64 (m : Int)) := by
  unfold sumSet
  rw [Array.getElem?_setIfInBounds, if_pos rfl, if_pos (by simpa using h)]
theorem cpl_cpl {s : Nat} (h : s < 4294967296) : 4294967295 - cplJ s = s := by unfold cplJ; omega
theorem cpl_lt (s : Nat) : cplJ s < 4294967296 := by unfold cplJ; omega

set_option maxRecDepth 100000 in
set_option maxHeartbeats 2000000 in
theorem cbyte_any (b o T : Nat) (cs : Array Value) (s m x : Nat) (w : World) (hs : s < 4294967296) (hx : x < 256) (hm : m ≤ 1099511627776) (hb : Blk w b T (sumSet cs o s m)) (ho : o + 1 < cs.size) :
    Calls Try.prog 113 #[.pointer (some ⟨b, o, none⟩), .int .u8 (x : Int)] w fun e w' => e = .returned (.tuple #[]) ∧ Blk w' b T (sumSet cs o (byteC s x) (m + 1)) ∧ Keep [b] w w' := by
  have c0 : w.cell? ⟨b, o, none⟩ = some (.int .u32 ((cplJ s : Nat) : Int)) := by rw [hb.cell]; exact sumSet_0 ho s m
  have c1 : w.cell? ⟨b, o + 1, none⟩ = some (.int .i64 (m : Int)) := by rw [hb.cell]; exact sumSet_1 ho s m
  have f0 := hb.frozen o
  have f1 := hb.frozen (o + 1)
  have hlt := hb.lt
  have hn : bits .xor .u32 IntKind.u32.max ((cplJ s : Nat) : Int) = ((s : Nat) : Int) := by rw [u32_not (cpl_lt s), cpl_cpl hs]
  have hn2 : bits .xor .u32 (if IntKind.u32.signed = true then -1 else IntKind.u32.max) ((cplJ s : Nat) : Int) = ((s : Nat) : Int) := hn
  have hxx : bits .xor .u32 (s : Int) (x : Int) = ((s ^^^ x : Nat) : Int) := u32_xor_nat s x hs (by omega)
  have hz : s ^^^ x < 4294967296 := Nat.xor_lt_two_pow (n := 32) hs (by omega)
  have HB8 : Hid (byteC s x = rndsC 8 (s ^^^ x)) := show _ = _ from rfl
  have HB := Lib.hid hb
  have hwm : IntKind.i64.wrap ((m : Int) + 1) = ((m + 1 : Nat) : Int) := by rw [show (m : Int) + 1 = ((m + 1 : Nat) : Int) by omega]; exact IntWalk.i64_in _ (by omega)
  obtain ⟨z, hzz⟩ : ∃ z, s ^^^ x = z := ⟨_, rfl⟩
  rw [hzz] at hxx hz HB8
  clear hzz hb
  go_enter Try.func113, Try.ntmps113
  go_wp2
  go_loop [4, 14] (fun v4 v14 => ∃ k : Nat, k ≤ 8 ∧ v14 = .int .i64 (k : Int) ∧ v4 = .int .u32 ((rndsC k z : Nat) : Int)) (fun _ v14 => 8 - (intOf v14).toNat)
  case atStart => exact ⟨0, Nat.zero_le _, rfl, rfl⟩
  case round =>
    obtain ⟨k, hk, rfl, rfl⟩ := hrel
    have hy := rndsC_lt hz k
    have HS : Hid (rndsC (k + 1) z = rndC (rndsC k z)) := show _ = _ from rfl
    have HK : Hid (k = 8 → rndsC k z = rndsC 8 z) := fun h => by rw [h]
    generalize rndsC k z = y at *
    by_cases hlt : k < 8
    · have hkk : IntKind.i64.wrap ((k : Int) + 1) = ((k + 1 : Nat) : Int) := by rw [show (k : Int) + 1 = ((k + 1 : Nat) : Int) by omega]; exact IntWalk.i64_in _ (by omega)
      have h2 : ((y / 2 : Nat) : Int) = (y : Int) / 2 := by omega
      cases hb0 : y.testBit 0 with
      | true =>
        have hand : bits .and .u32 (y : Int) 1 = 1 := by
          have := u32_and_nat y 1 hy (by decide)
          rw [Nat.and_one_is_mod, show y % 2 = 1 by simpa [Nat.testBit_zero] using hb0] at this
          exact this
        have hxo : bits .xor .u32 ((y : Int) / 2) 3988292384 = ((rndC y : Nat) : Int) := by
          rw [← h2, rndC, if_pos hb0]
          exact u32_xor_nat (y / 2) 3988292384 (by omega) (by decide)
        clear h2 hb0
        go_wp2
        go_round
        case rel => exact ⟨k + 1, by omega, by go_num, by rw [HS.out]⟩
        case measure => simp [intOf]; omega
      | false =>
        have hand : bits .and .u32 (y : Int) 1 = 0 := by
          have := u32_and_nat y 1 hy (by decide)
          rw [Nat.and_one_is_mod, show y % 2 = 0 by simpa [Nat.testBit_zero] using hb0] at this
          exact this
        have HS2 : Hid (((rndsC (k + 1) z : Nat) : Int) = (y : Int) / 2) := by show _ = _; rw [HS.out, rndC, hb0, if_neg (by decide)]; exact h2
        clear h2 hb0
        go_wp2
        go_round
        case rel => exact ⟨k + 1, by omega, by go_num, by rw [HS2.out]⟩
        case measure => simp [intOf]; omega
    · have hk8 : k = 8 := by omega
      have HY : Hid (byteC s x = y) := by show _ = _; rw [HB8.out, HK.out hk8]
      subst hk8
      clear HK
      have hnot : bits .xor .u32 IntKind.u32.max (y : Int) = ((cplJ y : Nat) : Int) := u32_not hy
      have hnot2 : bits .xor .u32 (if IntKind.u32.signed = true then -1 else IntKind.u32.max) (y : Int) = ((cplJ y : Nat) : Int) := hnot
      go_wp2
      go_end0
      rw [HY.out]
      refine ⟨rfl, ?_, ?_⟩
      · have h := (HB.out.set_ o (.int .u32 ((cplJ y : Nat) : Int))).set_ (o + 1) (.int .i64 ((m + 1 : Nat) : Int))
        rw [← sumSet_set cs o s m y (m + 1)]
        exact h
      · (repeat (first | with_reducible (refine Keep.drew ?_) | with_reducible (refine Keep.drewN ?_ _) | with_reducible (refine Keep.setCell ?_ (by simp) _) | with_reducible (refine Keep.alloc ?_ _) | with_reducible (exact Keep.refl _ _)))

set_option maxRecDepth 100000 in
set_option maxHeartbeats 1000000 in
theorem cvalue_any (b o T : Nat) (cs : Array Value) (s m : Nat) (w : World) (hb : Blk w b T (sumSet cs o s m)) (ho : o + 1 < cs.size) :
    Calls Try.prog 74 #[.pointer (some ⟨b, o, none⟩)] w fun e w' => e = .returned (.int .u32 ((cplJ s : Nat) : Int)) ∧ w = w' := by
  have c0 : w.cell? ⟨b, o, none⟩ = some (.int .u32 ((cplJ s : Nat) : Int)) := by rw [hb.cell]; exact sumSet_0 ho s m
  clear hb
  go_enter Try.func74, Try.ntmps74
  go_wp2
  go_ret
  exact ⟨rfl, rfl⟩

set_option maxRecDepth 100000 in
set_option maxHeartbeats 2000000 in
theorem cword_any (b o T : Nat) (cs : Array Value) (s m x : Nat) (w : World) (hs : s < 4294967296) (hx : x < 4294967296) (hm : m ≤ 1000000000000) (hb : Blk w b T (sumSet cs o s m)) (ho : o + 1 < cs.size) :
    Calls Try.prog 73 #[.pointer (some ⟨b, o, none⟩), .int .u32 (x : Int)] w fun e w' => e = .returned (.tuple #[]) ∧ Blk w' b T (sumSet cs o (wordC s x) (m + 4)) ∧ Keep [b] w w' := by
  have HF : Hid (∀ k, k ≤ 4 → ((bytesW x).take k).foldl byteC s < 4294967296) := fun k _ => foldB_lt _ hs (fun y hy => bytesW_lt hx y (List.mem_of_mem_take hy))
  have HB := Lib.hid hb
  have HX : Hid (x / 16777216 % 256 = x / 16777216) := by show _ = _; omega
  clear hb hs
  go_enter Try.func73, Try.ntmps73
  go_wp2
  go_loopw [5] (fun v5 wr => ∃ k : Nat, k ≤ 4 ∧ v5 = .int .i64 (k : Int) ∧ Blk wr b T (sumSet cs o (((bytesW x).take k).foldl byteC s) (m + k)) ∧ Keep [b] w wr) (fun v5 _ => 4 - (intOf v5).toNat)
  case atStart => exact ⟨0, Nat.zero_le _, rfl, HB.out, Keep.refl _ _⟩
  case round =>
    obtain ⟨k, hk, rfl, hb, hkp⟩ := hrel
    by_cases hlt : k < 4
    · have HC := fun y hy => Lib.hid (cbyte_any b o T cs (((bytesW x).take k).foldl byteC s) (m + k) y wr (HF.out k hk) hy (by omega) hb ho)
      have HKP := Lib.hid hkp
      clear hb hkp
      have hk4 : k = 0 ∨ k = 1 ∨ k = 2 ∨ k = 3 := by omega
      rcases hk4 with rfl | rfl | rfl | rfl
      · have H2 := Lib.hid (HC (x / 16777216) (by omega)).out
        have hcv : ((x / 16777216 : Nat) : Int) = (x : Int) / 16777216 := by omega
        rw [hcv] at H2
        clear HC hcv
        go_wp2_with fail
        refine H2.out.mono ?_
        rintro e w' ⟨rfl, hb2, k2⟩
        have HB2 := Lib.hid hb2
        have K2 := Lib.hid (HKP.out.trans k2 (fun y hy _ => hy))
        clear hb2 k2
        go_wp2
        go_roundw
        case rel => exact ⟨1, by omega, by go_num, HB2.out, K2.out⟩
        case measure => simp [intOf]
      · have H2 := Lib.hid (HC (x / 65536 % 256) (by omega)).out
        have hcv : ((x / 65536 % 256 : Nat) : Int) = (x : Int) / 65536 % 256 := by omega
        rw [hcv] at H2
        clear HC hcv
        go_wp2_with fail
        refine H2.out.mono ?_
        rintro e w' ⟨rfl, hb2, k2⟩
        have HB2 := Lib.hid hb2
        have K2 := Lib.hid (HKP.out.trans k2 (fun y hy _ => hy))
        clear hb2 k2
        go_wp2
        go_roundw
        case rel => exact ⟨2, by omega, by go_num, HB2.out, K2.out⟩
        case measure => simp [intOf]
      · have H2 := Lib.hid (HC (x / 256 % 256) (by omega)).out
        have hcv : ((x / 256 % 256 : Nat) : Int) = (x : Int) / 256 % 256 := by omega
        rw [hcv] at H2
        clear HC hcv
        go_wp2_with fail
        refine H2.out.mono ?_
        rintro e w' ⟨rfl, hb2, k2⟩
        have HB2 := Lib.hid hb2
        have K2 := Lib.hid (HKP.out.trans k2 (fun y hy _ => hy))
        clear hb2 k2
        go_wp2
        go_roundw
        case rel => exact ⟨3, by omega, by go_num, HB2.out, K2.out⟩
        case measure => simp [intOf]
      · have H2 := Lib.hid (HC (x % 256) (by omega)).out
        have hcv : ((x % 256 : Nat) : Int) = (x : Int) % 256 := by omega
        rw [hcv] at H2
        clear HC hcv
        go_wp2_with fail
        refine H2.out.mono ?_
        rintro e w' ⟨rfl, hb2, k2⟩
        have HB2 := Lib.hid hb2
        have K2 := Lib.hid (HKP.out.trans k2 (fun y hy _ => hy))
        clear hb2 k2
        go_wp2
        go_roundw
        case rel => exact ⟨4, by omega, by go_num, HB2.out, K2.out⟩
        case measure => simp [intOf]
    · obtain rfl : k = 4 := by omega
      have HB4 : Hid (Blk wr b T (sumSet cs o (wordC s x) (m + 4))) := hb
      have HK4 := Lib.hid hkp
      clear hb hkp
      go_wp2
      go_end0
      exact ⟨rfl, HB4.out, HK4.out⟩

theorem op_app_readsC {P : Program} {ops : Array Oper} {Q : Exit → Act → World → Prop} {K : Act → World → Prop} {a : Act} {wr : World} {dst : Option Tmp} {tyy : TypeId} {pos : String} {after : Array Edge} {gd : Option (Nat × Bool)} (i : Nat) {s x : Operand} {t e : TypeId} {size bytes : Nat}
    (hi : ops[i]? = some ⟨dst, .call { callee := .builtin .append, args := #[s, x], argTypes := #[t, t] }, tyy, pos, after, gd⟩) (hw : Region.wanted ⟨dst, .call { callee := .builtin .append, args := #[s, x], argTypes := #[t, t] }, tyy, pos, after, gd⟩ (yielded ops a.tmps) = true)
    (hS : SliceOf P t e size bytes) {base : Nat} {v : Value} {n : Nat} {xs : List Value} (hs : a.eval s = v) (hown : wr.ownsRow base e size v n xs) {A : Option Addr} {m c : Nat} {news : List Value} (hx : a.eval x = .slice A m c) (hr : Reads wr size A m news) (h1 : ∀ u ∈ news, u.oneCell' = true)
    (h63 : n + m ≤ maxLen) (hb : (n + m) * bytes ≤ 140737488355328) (hbase : base ≤ wr.heap.size)
    (h : ∀ v' w', w'.ownsRow base e size v' (n + m) (xs ++ news) → Keep v.ownBlock.toList wr w' → (v'.ownBlock = v.ownBlock ∨ v'.ownBlock = some wr.heap.size) → K (a.put dst v') w') : wpOp P ops Q i K a wr := by
  obtain ⟨v', w', hrun, h2, h3, h4⟩ := run_append_reads (P := P) base t tyy hS v n xs hown A m c news hr h1 h63 hb hbase
  refine op_run (v := v') (w' := w') i hi hw ?_ (h v' w' h2 h3 h4)
  simp [execOp, resolve, invoke, builtin, hs, hx, hrun, Result.andThen]

abbrev bytesC (l : List Nat) : List Value := l.map (fun x : Nat => Value.int .u8 (x : Int))
theorem bit_tmod (b k : Nat) : (((b : Int) / 2 ^ k).tmod 2) = (if b.testBit k then 1 else 0) := by
  have h : ((b : Int) / 2 ^ k).tmod 2 = ((b / 2 ^ k % 2 : Nat) : Int) := by
    have e : ((b : Int) / 2 ^ k) = ((b / 2 ^ k : Nat) : Int) := by norm_cast
    rw [e, Int.tmod_eq_emod_of_nonneg (Int.natCast_nonneg _)]
    norm_cast
  rw [h, Nat.testBit_eq_decide_div_mod_eq]
  have := Nat.mod_two_eq_zero_or_one (b / 2 ^ k)
  rcases this with h1 | h1 <;> rw [h1] <;> rfl
theorem low_tmod (s : Nat) : ((s : Int).tmod 2) = (if s.testBit 0 then 1 else 0) := by
  have := bit_tmod s 0
  simpa using this

set_option maxRecDepth 100000 in
set_option maxHeartbeats 2000000 in
theorem rsum_any (A : Option Addr) (n c : Nat) (l : List Nat) (w : World) (hl : l.length = n) (h256 : ∀ x ∈ l, x < 256) (hr : Reads w 1 A n (bytesC l)) (hn : n ≤ 1000000) :
    Calls Try.prog 87 #[.slice A n c] w fun e w' => e = .returned (.int .u32 ((4294967295 - l.foldl byteC 4294967295 : Nat) : Int)) ∧ w = w' := by
  have HL := Lib.hid hl
  have HR := Lib.hid hr
  have H256 := Lib.hid h256
  clear hl hr h256
  go_enter Try.func87, Try.ntmps87
  go_wp2
  go_loop [3, 4] (fun v3 v4 => ∃ i s : Nat, i ≤ n ∧ v4 = .int .i64 (i : Int) ∧ v3 = .int .u32 (s : Int) ∧ s < 4294967296 ∧ s = (l.take i).foldl byteC 4294967295) (fun _ v4 => n - (intOf v4).toNat)
  case atStart => exact ⟨0, 4294967295, Nat.zero_le _, rfl, rfl, by decide, rfl⟩
  case round =>
    obtain ⟨i, s, hi, rfl, rfl, hs, hss⟩ := hrel
    have HSS := Lib.hid hss
    clear hss
    by_cases hlt : i < n
    · have hil : i < l.length := by rw [HL.out]; exact hlt
      obtain ⟨bb, ob, rfl, hb, hcs⟩ := HR.out.addr (by omega)
      have hx : w.cell? ⟨bb, ob + i, none⟩ = some (.int .u8 (l[i] : Int)) := hcs i _ (by rw [List.getElem?_map, List.getElem?_eq_getElem hil]; rfl)
      have hx256 := H256.out l[i] (List.getElem_mem hil)
      have HT : Hid ((l.take (i + 1)).foldl byteC 4294967295 = byteC s l[i]) := by
        show _ = _
        rw [List.take_succ_eq_append_getElem hil, List.foldl_append, HSS.out]
        rfl
      generalize l[i] = x at *
      have hii : (0 : Int) ≤ (i : Int) := by omega
      have hin : (i : Int) < (n : Int) := by omega
      have hwi : IntKind.i64.wrap ((i : Int) + 1) = ((i + 1 : Nat) : Int) := by rw [show (i : Int) + 1 = ((i + 1 : Nat) : Int) by omega]; exact IntWalk.i64_in _ (by omega)
      have HBB : Hid (byteC s x = bitsC s x 8) := byte_bits s hx256
      have HB0 : Hid (bitsC s x 0 = s) := show _ = _ from rfl
      have HBL : Hid (∀ k, bitsC s x k < 4294967296) := fun k => bitsC_lt hs x k
      clear hcs
      go_wp2
      go_loop [3, 5] (fun v3 v5 => ∃ k : Nat, k ≤ 8 ∧ v5 = .int .u64 (k : Int) ∧ v3 = .int .u32 ((bitsC s x k : Nat) : Int)) (fun _ v5 => 8 - (intOf v5).toNat)
      case atStart => exact ⟨0, Nat.zero_le _, rfl, by rw [HB0.out]⟩
      case round =>
        obtain ⟨k, hk, rfl, rfl⟩ := hrel
        have hr32 := HBL.out k
        have HSU : Hid (bitsC s x (k + 1) = bitC (bitsC s x k) (x.testBit k)) := show _ = _ from rfl
        have HK8 : Hid (k = 8 → byteC s x = bitsC s x k) := fun h => by rw [h]; exact HBB.out
        generalize bitsC s x k = r at *
        by_cases hlk : k < 8
        · have hb1 := bit_tmod x k
          have hl1 := low_tmod r
          have h2 : ((r / 2 : Nat) : Int) = (r : Int) / 2 := by omega
          have h3 : (r : Int).tdiv 2 = (r : Int) / 2 := by rw [Int.tdiv_eq_ediv_of_nonneg (by omega)]
          have hxo : bits .xor .u32 ((r : Int) / 2) 3988292384 = (((r / 2) ^^^ polyC : Nat) : Int) := by
            rw [← h2]
            exact u32_xor_nat (r / 2) 3988292384 (by omega) (by decide)
          cases hbx : x.testBit k with
          | true =>
            rw [hbx] at hb1 HSU
            simp only [if_true] at hb1
            cases hbl : r.testBit 0 with
            | true =>
              rw [hbl] at hl1
              simp only [if_true] at hl1
              have HSV : Hid (((bitsC s x (k + 1) : Nat) : Int) = (r : Int) / 2) := by show _ = _; rw [HSU.out, bitC, hbl, if_neg (by decide)]; exact h2
              clear hbx hbl h2
              go_wp2
              go_round
              case rel => exact ⟨k + 1, by omega, by go_num, by rw [HSV.out]⟩
              case measure => simp [intOf]; omega
            | false =>
              rw [hbl] at hl1
              simp only [if_false, Bool.false_eq_true] at hl1
              have HSV : Hid (bitsC s x (k + 1) = (r / 2) ^^^ polyC) := by show _ = _; rw [HSU.out, bitC, hbl, if_pos (by decide)]
              clear hbx hbl h2
              go_wp2
              go_round
              case rel => exact ⟨k + 1, by omega, by go_num, by rw [HSV.out]⟩
              case measure => simp [intOf]; omega
          | false =>
            rw [hbx] at hb1 HSU
            simp only [if_false, Bool.false_eq_true] at hb1
            cases hbl : r.testBit 0 with
            | true =>
              rw [hbl] at hl1
              simp only [if_true] at hl1
              have HSV : Hid (bitsC s x (k + 1) = (r / 2) ^^^ polyC) := by show _ = _; rw [HSU.out, bitC, hbl, if_pos (by decide)]
              clear hbx hbl h2
              go_wp2
              go_round
              case rel => exact ⟨k + 1, by omega, by go_num, by rw [HSV.out]⟩
              case measure => simp [intOf]; omega
            | false =>
              rw [hbl] at hl1
              simp only [if_false, Bool.false_eq_true] at hl1
              have HSV : Hid (((bitsC s x (k + 1) : Nat) : Int) = (r : Int) / 2) := by show _ = _; rw [HSU.out, bitC, hbl, if_neg (by decide)]; exact h2
              clear hbx hbl h2
              go_wp2
              go_round
              case rel => exact ⟨k + 1, by omega, by go_num, by rw [HSV.out]⟩
              case measure => simp [intOf]; omega
        · have hk8 : k = 8 := by omega
          have HY : Hid (r = (l.take (i + 1)).foldl byteC 4294967295) := by show _ = _; rw [HT.out, HK8.out hk8]
          subst hk8
          clear HK8
          go_wp2
          go_round
          case rel => exact ⟨i + 1, r, by omega, by go_num, rfl, hr32, HY.out⟩
          case measure => simp [intOf]; omega
    · have hin : i = n := by omega
      have HY : Hid (l.foldl byteC 4294967295 = s) := by show _ = _; rw [HSS.out, hin, ← HL.out, List.take_length]
      subst hin
      have hnot : bits .xor .u32 IntKind.u32.max (s : Int) = ((4294967295 - s : Nat) : Int) := u32_not hs
      have hnot2 : bits .xor .u32 (if IntKind.u32.signed = true then -1 else IntKind.u32.max) (s : Int) = ((4294967295 - s : Nat) : Int) := hnot
      go_wp2
      go_ret
      rw [HY.out]
      exact ⟨rfl, rfl⟩

theorem slice_u8 : SliceOf Try.prog 148 5 1 1 := ⟨Try.underlying148, by kernel_rfl, by decide⟩
theorem bytesL_len (l : List Nat) : (bytesL l).length = l.length * 4 := by
  induction l with
  | nil => rfl
  | cons x l ih => simp only [bytesL, List.flatMap_cons, List.length_append, List.length_cons] at ih ⊢; rw [ih]; simp [bytesW]; omega
theorem bytesL_lt {l : List Nat} (h : ∀ x ∈ l, x < 4294967296) : ∀ b ∈ bytesL l, b < 256 := fun b hb => by
  obtain ⟨x, hx, hb⟩ := List.mem_flatMap.1 hb
  exact bytesW_lt (h x hx) b hb
theorem bytesC_one (l : List Nat) : ∀ u ∈ bytesC l, u.oneCell' = true := fun u hu => by
  obtain ⟨x, _, rfl⟩ := List.mem_map.1 hu
  rfl
def RetBytes (w : World) (l : List Nat) (e : Ending) (w' : World) : Prop :=
  ∃ A c, e = .returned (.slice A l.length c) ∧ w'.ownsRow w.heap.size 5 1 (.slice A l.length c) l.length (bytesC l) ∧ Keep [] w w'

set_option maxRecDepth 100000 in
set_option maxHeartbeats 2000000 in
theorem rbytes_any (A : Option Addr) (n c : Nat) (l : List Nat) (w : World) (hl : l.length = n) (h32 : ∀ x ∈ l, x < 4294967296) (hr : Reads w 1 A n (wordsV l)) (hn : n ≤ 100000) :
    Calls Try.prog 88 #[.slice A n c] w (RetBytes w (bytesL l)) := by
  have HL := Lib.hid hl
  have HR := Lib.hid hr
  have H32 := Lib.hid h32
  clear hl hr h32
  go_enter Try.func88, Try.ntmps88
  go_wp2
  go_loopw [3, 4] (fun v3 v4 wr => ∃ i : Nat, i ≤ n ∧ v4 = .int .i64 (i : Int) ∧ (∃ B b, v3 = .slice B (i * 4) b ∧ wr.ownsRow w.heap.size 5 1 (.slice B (i * 4) b) (i * 4) (bytesC (bytesL (l.take i)))) ∧ Keep [] w wr) (fun _ v4 _ => n - (intOf v4).toNat)
  case atStart => exact ⟨0, Nat.zero_le _, rfl, ⟨none, 0, rfl, World.ownsRow_nil _ _ _ _⟩, Keep.refl _ _⟩
  case round =>
    obtain ⟨i, hi, rfl, ⟨B, b, rfl, hown⟩, hkp⟩ := hrel
    by_cases hlt : i < n
    · have hil : i < l.length := by rw [HL.out]; exact hlt
      obtain ⟨bb, ob, rfl, hb, hcs⟩ := HR.out.addr (by omega)
      have hG : ∀ W, Keep [] wr W → W.cell? ⟨bb, ob + i, none⟩ = some (.int .u32 (l[i] : Int)) ∧ True ∧ True := fun W hW =>
        ⟨((hkp.then hW).cell (p := ⟨bb, ob + i, none⟩) hb (by simp)).trans (hcs i _ (by rw [List.getElem?_map, List.getElem?_eq_getElem hil]; rfl)), trivial, trivial⟩
      have HX := H32.out l[i] (List.getElem_mem hil)
      have HT : Hid (bytesL (l.take (i + 1)) = bytesL (l.take i) ++ bytesW l[i]) := by
        show _ = _
        rw [List.take_succ_eq_append_getElem hil]
        unfold bytesL
        rw [List.flatMap_append]
        simp only [List.flatMap_cons, List.flatMap_nil, List.append_nil]
      generalize l[i] = x at *
      have hii : (0 : Int) ≤ (i : Int) := by omega
      have hin : (i : Int) < (n : Int) := by omega
      have hwi : IntKind.i64.wrap ((i : Int) + 1) = ((i + 1 : Nat) : Int) := by rw [show (i : Int) + 1 = ((i + 1 : Nat) : Int) by omega]; exact IntWalk.i64_in _ (by omega)
      have HOW := Lib.hid hown
      have HKP := Lib.hid hkp
      clear hcs hown
      go_upto_region 5 with fail
      have uu1 : IntKind.u32.wrap ((x : Int) / 16777216) = (x : Int) / 16777216 := IntWalk.u32_in _ (by omega)
      have uu2 : IntKind.u8.wrap ((x : Int) / 16777216) = (x : Int) / 16777216 := IntWalk.u8_in _ (by omega)
      have uu3 : IntKind.u32.wrap ((x : Int) / 65536) = (x : Int) / 65536 := IntWalk.u32_in _ (by omega)
      have uu4 : ((x : Int) / 65536).tmod 256 = (x : Int) / 65536 % 256 := Int.tmod_eq_emod_of_nonneg (by omega)
      have uu5 : IntKind.u8.wrap ((x : Int) / 65536 % 256) = (x : Int) / 65536 % 256 := IntWalk.u8_in _ (by omega)
      have uu6 : IntKind.u32.wrap ((x : Int) / 256) = (x : Int) / 256 := IntWalk.u32_in _ (by omega)
      have uu7 : ((x : Int) / 256).tmod 256 = (x : Int) / 256 % 256 := Int.tmod_eq_emod_of_nonneg (by omega)
      have uu8 : IntKind.u8.wrap ((x : Int) / 256 % 256) = (x : Int) / 256 % 256 := IntWalk.u8_in _ (by omega)
      have uu9 : (x : Int).tmod 256 = (x : Int) % 256 := Int.tmod_eq_emod_of_nonneg (by omega)
      have uu10 : IntKind.u8.wrap ((x : Int) % 256) = (x : Int) % 256 := IntWalk.u8_in _ (by omega)
      refine ap_begin 28 (Keep [] wr) rfl (Keep.refl _ _).drew (fun hS hPan => ?_) (fun _ _ d _ _ h => by cases d <;> exact h)
      (refine ap_val (v := ?_) 0 rfl (by kernel_rfl) (by kernel_rfl) (by kernel_rfl) (by kernel_rfl) (by rfl) hPan ?_ hS ?_; rotate_left; (intro w' hSw; go_simp; try with_reducible rfl); simp only [Act.put, List.setIfInBounds_toArray, List.set_cons_zero, List.set_cons_succ])
      (refine ap_val (v := ?_) 1 rfl (by kernel_rfl) (by kernel_rfl) (by kernel_rfl) (by kernel_rfl) (by rfl) hPan ?_ hS ?_; rotate_left; (intro w' hSw; go_simp; try with_reducible rfl); simp only [Act.put, List.setIfInBounds_toArray, List.set_cons_zero, List.set_cons_succ])
      (refine ap_val (v := ?_) 2 rfl (by kernel_rfl) (by kernel_rfl) (by kernel_rfl) (by kernel_rfl) (by rfl) hPan ?_ hS ?_; rotate_left; (intro w' hSw; go_simp; try with_reducible rfl); simp only [Act.put, List.setIfInBounds_toArray, List.set_cons_zero, List.set_cons_succ])
      (refine ap_val (v := ?_) 3 rfl (by kernel_rfl) (by kernel_rfl) (by kernel_rfl) (by kernel_rfl) (by rfl) hPan ?_ hS ?_; rotate_left; (intro w' hSw; go_simp; try with_reducible rfl); simp only [Act.put, List.setIfInBounds_toArray, List.set_cons_zero, List.set_cons_succ])
      (refine ap_val (v := ?_) 4 rfl (by kernel_rfl) (by kernel_rfl) (by kernel_rfl) (by kernel_rfl) (by rfl) hPan ?_ hS ?_; rotate_left; (intro w' hSw; obtain ⟨f0,f1,f2⟩ := hG w' hSw; go_simp; try with_reducible rfl); simp only [Act.put, List.setIfInBounds_toArray, List.set_cons_zero, List.set_cons_succ])
      (refine ap_val (v := ?_) 5 rfl (by kernel_rfl) (by kernel_rfl) (by kernel_rfl) (by kernel_rfl) (by rfl) hPan ?_ hS ?_; rotate_left; (intro w' hSw; go_simp; try with_reducible rfl); simp only [Act.put, List.setIfInBounds_toArray, List.set_cons_zero, List.set_cons_succ])
      (refine ap_val (v := ?_) 6 rfl (by kernel_rfl) (by kernel_rfl) (by kernel_rfl) (by kernel_rfl) (by rfl) hPan ?_ hS ?_; rotate_left; (intro w' hSw; go_simp; try with_reducible rfl); simp only [Act.put, List.setIfInBounds_toArray, List.set_cons_zero, List.set_cons_succ])
      (refine ap_val (v := ?_) 7 rfl (by kernel_rfl) (by kernel_rfl) (by kernel_rfl) (by kernel_rfl) (by rfl) hPan ?_ hS ?_; rotate_left; (intro w' hSw; go_simp; try with_reducible rfl); simp only [Act.put, List.setIfInBounds_toArray, List.set_cons_zero, List.set_cons_succ])
      (refine ap_val (v := ?_) 8 rfl (by kernel_rfl) (by kernel_rfl) (by kernel_rfl) (by kernel_rfl) (by rfl) hPan ?_ hS ?_; rotate_left; (intro w' hSw; go_simp; try with_reducible rfl); simp only [Act.put, List.setIfInBounds_toArray, List.set_cons_zero, List.set_cons_succ])
      (refine ap_val (v := ?_) 9 rfl (by kernel_rfl) (by kernel_rfl) (by kernel_rfl) (by kernel_rfl) (by rfl) hPan ?_ hS ?_; rotate_left; (intro w' hSw; go_simp; try with_reducible rfl); simp only [Act.put, List.setIfInBounds_toArray, List.set_cons_zero, List.set_cons_succ])
      (refine ap_val (v := ?_) 10 rfl (by kernel_rfl) (by kernel_rfl) (by kernel_rfl) (by kernel_rfl) (by rfl) hPan ?_ hS ?_; rotate_left; (intro w' hSw; obtain ⟨f0,f1,f2⟩ := hG w' hSw; go_simp; try with_reducible rfl); simp only [Act.put, List.setIfInBounds_toArray, List.set_cons_zero, List.set_cons_succ])
      (refine ap_val (v := ?_) 11 rfl (by kernel_rfl) (by kernel_rfl) (by kernel_rfl) (by kernel_rfl) (by rfl) hPan ?_ hS ?_; rotate_left; (intro w' hSw; go_simp; try with_reducible rfl); simp only [Act.put, List.setIfInBounds_toArray, List.set_cons_zero, List.set_cons_succ])
      (refine ap_val (v := ?_) 12 rfl (by kernel_rfl) (by kernel_rfl) (by kernel_rfl) (by kernel_rfl) (by rfl) hPan ?_ hS ?_; rotate_left; (intro w' hSw; go_simp; try with_reducible rfl); simp only [Act.put, List.setIfInBounds_toArray, List.set_cons_zero, List.set_cons_succ])
      (refine ap_val (v := ?_) 13 rfl (by kernel_rfl) (by kernel_rfl) (by kernel_rfl) (by kernel_rfl) (by rfl) hPan ?_ hS ?_; rotate_left; (intro w' hSw; go_simp; try with_reducible rfl); simp only [Act.put, List.setIfInBounds_toArray, List.set_cons_zero, List.set_cons_succ])
      (refine ap_val (v := ?_) 14 rfl (by kernel_rfl) (by kernel_rfl) (by kernel_rfl) (by kernel_rfl) (by rfl) hPan ?_ hS ?_; rotate_left; (intro w' hSw; go_simp; try with_reducible rfl); simp only [Act.put, List.setIfInBounds_toArray, List.set_cons_zero, List.set_cons_succ])
      (refine ap_val (v := ?_) 15 rfl (by kernel_rfl) (by kernel_rfl) (by kernel_rfl) (by kernel_rfl) (by rfl) hPan ?_ hS ?_; rotate_left; (intro w' hSw; go_simp; try with_reducible rfl); simp only [Act.put, List.setIfInBounds_toArray, List.set_cons_zero, List.set_cons_succ])
      (refine ap_val (v := ?_) 16 rfl (by kernel_rfl) (by kernel_rfl) (by kernel_rfl) (by kernel_rfl) (by rfl) hPan ?_ hS ?_; rotate_left; (intro w' hSw; go_simp; try with_reducible rfl); simp only [Act.put, List.setIfInBounds_toArray, List.set_cons_zero, List.set_cons_succ])
      (refine ap_val (v := ?_) 17 rfl (by kernel_rfl) (by kernel_rfl) (by kernel_rfl) (by kernel_rfl) (by rfl) hPan ?_ hS ?_; rotate_left; (intro w' hSw; obtain ⟨f0,f1,f2⟩ := hG w' hSw; go_simp; try with_reducible rfl); simp only [Act.put, List.setIfInBounds_toArray, List.set_cons_zero, List.set_cons_succ])
      (refine ap_val (v := ?_) 18 rfl (by kernel_rfl) (by kernel_rfl) (by kernel_rfl) (by kernel_rfl) (by rfl) hPan ?_ hS ?_; rotate_left; (intro w' hSw; go_simp; try with_reducible rfl); simp only [Act.put, List.setIfInBounds_toArray, List.set_cons_zero, List.set_cons_succ])
      (refine ap_val (v := ?_) 19 rfl (by kernel_rfl) (by kernel_rfl) (by kernel_rfl) (by kernel_rfl) (by rfl) hPan ?_ hS ?_; rotate_left; (intro w' hSw; go_simp; try with_reducible rfl); simp only [Act.put, List.setIfInBounds_toArray, List.set_cons_zero, List.set_cons_succ])
      (refine ap_val (v := ?_) 20 rfl (by kernel_rfl) (by kernel_rfl) (by kernel_rfl) (by kernel_rfl) (by rfl) hPan ?_ hS ?_; rotate_left; (intro w' hSw; go_simp; try with_reducible rfl); simp only [Act.put, List.setIfInBounds_toArray, List.set_cons_zero, List.set_cons_succ])
      (refine ap_val (v := ?_) 21 rfl (by kernel_rfl) (by kernel_rfl) (by kernel_rfl) (by kernel_rfl) (by rfl) hPan ?_ hS ?_; rotate_left; (intro w' hSw; go_simp; try with_reducible rfl); simp only [Act.put, List.setIfInBounds_toArray, List.set_cons_zero, List.set_cons_succ])
      (refine ap_val (v := ?_) 22 rfl (by kernel_rfl) (by kernel_rfl) (by kernel_rfl) (by kernel_rfl) (by rfl) hPan ?_ hS ?_; rotate_left; (intro w' hSw; go_simp; try with_reducible rfl); simp only [Act.put, List.setIfInBounds_toArray, List.set_cons_zero, List.set_cons_succ])
      (refine ap_val (v := ?_) 23 rfl (by kernel_rfl) (by kernel_rfl) (by kernel_rfl) (by kernel_rfl) (by rfl) hPan ?_ hS ?_; rotate_left; (intro w' hSw; go_simp; try with_reducible rfl); simp only [Act.put, List.setIfInBounds_toArray, List.set_cons_zero, List.set_cons_succ])
      (refine ap_val (v := ?_) 24 rfl (by kernel_rfl) (by kernel_rfl) (by kernel_rfl) (by kernel_rfl) (by rfl) hPan ?_ hS ?_; rotate_left; (intro w' hSw; obtain ⟨f0,f1,f2⟩ := hG w' hSw; go_simp; try with_reducible rfl); simp only [Act.put, List.setIfInBounds_toArray, List.set_cons_zero, List.set_cons_succ])
      (refine ap_val (v := ?_) 25 rfl (by kernel_rfl) (by kernel_rfl) (by kernel_rfl) (by kernel_rfl) (by rfl) hPan ?_ hS ?_; rotate_left; (intro w' hSw; go_simp; try with_reducible rfl); simp only [Act.put, List.setIfInBounds_toArray, List.set_cons_zero, List.set_cons_succ])
      (refine ap_val (v := ?_) 26 rfl (by kernel_rfl) (by kernel_rfl) (by kernel_rfl) (by kernel_rfl) (by rfl) hPan ?_ hS ?_; rotate_left; (intro w' hSw; go_simp; try with_reducible rfl); simp only [Act.put, List.setIfInBounds_toArray, List.set_cons_zero, List.set_cons_succ])
      generalize wr.drew = w6 at *
      have hS6 := hS
      have hown6 : (w6.alloc (.cells #[.int .u8 ((x : Int) / 16777216), .int .u8 ((x : Int) / 65536 % 256), .int .u8 ((x : Int) / 256 % 256), .int .u8 ((x : Int) % 256)] 5)).ownsRow w.heap.size 5 1 (.slice B (i * 4) b) (i * 4) (bytesC (bytesL (l.take i))) := own_keep0 HOW.out (hS6.alloc _)
      have hrd : Reads (w6.alloc (.cells #[.int .u8 ((x : Int) / 16777216), .int .u8 ((x : Int) / 65536 % 256), .int .u8 ((x : Int) / 256 % 256), .int .u8 ((x : Int) % 256)] 5)) 1 (some ⟨w6.heap.size, 0, none⟩) 4 (bytesC (bytesW x)) := by
        refine ⟨rfl, fun _ => ⟨w6.heap.size, 0, rfl, by simp, fun j u hu => ?_⟩⟩
        rw [Nat.zero_add, (Blk.new w6 _ _).cell]
        have hj : j < 4 := by
          have := (List.getElem?_eq_some_iff.1 hu).1
          simpa [bytesW] using this
        rw [← hu]
        rcases (show j = 0 ∨ j = 1 ∨ j = 2 ∨ j = 3 by omega) with rfl | rfl | rfl | rfl
        · exact congrArg (fun z : Int => some (Value.int .u8 z)) (show ((x : Int) / 16777216) = ((x / 16777216 : Nat) : Int) by omega)
        · exact congrArg (fun z : Int => some (Value.int .u8 z)) (show ((x : Int) / 65536 % 256) = ((x / 65536 % 256 : Nat) : Int) by omega)
        · exact congrArg (fun z : Int => some (Value.int .u8 z)) (show ((x : Int) / 256 % 256) = ((x / 256 % 256 : Nat) : Int) by omega)
        · exact congrArg (fun z : Int => some (Value.int .u8 z)) (show ((x : Int) % 256) = ((x % 256 : Nat) : Int) by omega)
      have hB6 : w.heap.size ≤ (w6.alloc (.cells #[.int .u8 ((x : Int) / 16777216), .int .u8 ((x : Int) / 65536 % 256), .int .u8 ((x : Int) / 256 % 256), .int .u8 ((x : Int) % 256)] 5)).heap.size := (HKP.out.then (hS6.alloc _)).size
      have hk6 := HKP.out.then (hS6.alloc (.cells #[.int .u8 ((x : Int) / 16777216), .int .u8 ((x : Int) / 65536 % 256), .int .u8 ((x : Int) / 256 % 256), .int .u8 ((x : Int) % 256)] 5))
      have HRD := Lib.hid hrd
      have HOW6 := Lib.hid hown6
      have HK6 := Lib.hid hk6
      clear hrd hown6 hk6 HKP HOW hkp
      refine ap_one 27 (by kernel_rfl) ?_
      refine op_run (v := .slice (some ⟨w6.heap.size, 0, none⟩) 4 4) (w' := w6.alloc (.cells #[.int .u8 ((x : Int) / 16777216), .int .u8 ((x : Int) / 65536 % 256), .int .u8 ((x : Int) / 256 % 256), .int .u8 ((x : Int) % 256)] 5)) 27 rfl (by kernel_rfl) (by go_simp) ?_
      refine ⟨fun _ => hS.alloc _, ?_⟩
      (simp only [Act.put, List.setIfInBounds_toArray, List.set_cons_zero, List.set_cons_succ])
      refine ap_one 28 (by kernel_rfl) ?_
      refine op_app_readsC 28 rfl (by kernel_rfl) slice_u8 rfl HOW6.out rfl HRD.out (bytesC_one _) (by unfold maxLen; omega) (by omega) hB6 ?_
      intro v' w7 hown7 hgrow7 hat7
      refine ⟨fun h => (by cases h), ?_⟩
      (simp only [Act.put, List.setIfInBounds_toArray, List.set_cons_zero, List.set_cons_succ])
      refine ap_one 29 (by kernel_rfl) ?_
      refine op_run (v := v') (w' := w7) 29 rfl (by kernel_rfl) (by go_simp) ?_
      refine ⟨fun h => (by cases h), ap_done (by kernel_rfl) ?_ _⟩
      (simp only [Act.put, List.setIfInBounds_toArray, List.set_cons_zero, List.set_cons_succ])
      obtain ⟨B', b', rfl⟩ := own_shape hown7
      have HO7 : Hid (w7.ownsRow w.heap.size 5 1 (.slice B' ((i + 1) * 4) b') ((i + 1) * 4) (bytesC (bytesL (l.take (i + 1))))) := by
        show World.ownsRow _ _ _ _ _ _ _
        rw [HT.out, show (i + 1) * 4 = i * 4 + 4 by omega]
        simpa using hown7
      have HK7 : Hid (Keep [] w w7) := HK6.out.trans hgrow7 (fun y hy hlt => by have := (HOW6.out.lt y (Option.mem_toList.1 hy)).1; omega)
      clear hown7 hgrow7 hat7 hS hS6 hPan hG
      go_wp2
      go_roundw
      case rel => exact ⟨i + 1, by omega, by go_num, ⟨B', b', by rw [show (i + 1) * 4 = i * 4 + 4 by omega], HO7.out⟩, HK7.out⟩
      case measure => simp [intOf]; omega
    · have hin : i = n := by omega
      have HO : Hid (wr.ownsRow w.heap.size 5 1 (.slice B (i * 4) b) (i * 4) (bytesC (bytesL l))) := by
        show World.ownsRow _ _ _ _ _ _ _
        have : l.take i = l := by rw [hin, ← HL.out, List.take_length]
        rw [this] at hown
        exact hown
      have HLL : Hid (i * 4 = (bytesL l).length) := by show _ = _; rw [bytesL_len, HL.out, hin]
      have HKP := Lib.hid hkp
      clear hown hkp
      subst hin
      go_wp2
      go_ret
      exact ⟨B, b, by rw [HLL.out]; rfl, by rw [← HLL.out]; exact HO.out, HKP.out⟩
end Go.Proofs.Yteanpgkonhdbpaa
