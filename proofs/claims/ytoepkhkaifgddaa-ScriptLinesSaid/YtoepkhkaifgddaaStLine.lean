/- The line of a step: plain. Laws of texts that are laid together. No condition. -/
import Derived.Test.YtoepkhkaifgddaaStRightW
namespace Go.Proofs.Ytoepkhkaifgddaa
open Go.RowKit

def secT (x : Sct) : List UInt8 := 32 :: (decL (clampN x.res) ++ 58 :: (decL (clampN x.frm) ++ 45 :: decL (clampN x.to)))
def wordT (k : Nat) : List UInt8 := 32 :: hexL k
/-- A part of a step's line. -/
def partT (s : Stp) (c : Int) : List UInt8 :=
  if c = 97 then 32 :: decL (clampN s.a)
  else if c = 110 then 32 :: decL (clampN s.n)
  else if c = 104 then wordT s.n.toNat
  else if c = 115 then s.secs.flatMap secT
  else if c = 119 then s.words.flatMap wordT
  else []
/-- The first parts of a step's line. -/
def partsT (s : Stp) (p : ByteArray) (k : Nat) : List UInt8 := (List.range k).flatMap (fun i => partT s (byteAt p i))
def lineT (s : Stp) : List UInt8 := if rightP s then bytesOf (shp s.kind).1 ++ partsT s (shp s.kind).2 (shp s.kind).2.size else []
theorem partsT_succ (s : Stp) (p : ByteArray) (k : Nat) : partsT s p (k + 1) = partsT s p k ++ partT s (byteAt p k) := by
  unfold partsT
  rw [List.range_succ, List.flatMap_append]
  simp
theorem strOf_of {S : ByteArray} {l : List UInt8} (h : bytesOf S = l) : Value.string S = strOf l := by
  subst h
  unfold strOf bytesOf
  rfl
theorem text_fix (n : Int) (w : World) : Calls Try.prog 38 #[.int .i64 n] w fun e w' => e = .returned (strOf (decL (clampN n))) ∧ Keep [] w w' :=
  (text_any n w).mono (by rintro e w' ⟨S, rfl, hS, k⟩; exact ⟨by rw [strOf_of hS], k⟩)
theorem word_fix (x : Nat) (w : World) (hx : x < 4294967296) : Calls Try.prog 59 #[.int .u32 (x : Int)] w fun e w' => e = .returned (strOf (hexL x)) ∧ Keep [] w w' :=
  (word_any x w hx).mono (by rintro e w' ⟨S, rfl, hS, k⟩; exact ⟨by rw [strOf_of hS], k⟩)
theorem rtext_fix (n : Int) (w : World) : Calls Try.prog 42 #[.int .i64 n] w fun e w' => e = .returned (strOf (decL (clampN n))) ∧ Keep [] w w' :=
  (rtext_any n w).mono (by rintro e w' ⟨S, rfl, hS, k⟩; exact ⟨by rw [strOf_of hS], k⟩)
theorem rword_fix (x : Nat) (w : World) (hx : x < 4294967296) : Calls Try.prog 60 #[.int .u32 (x : Int)] w fun e w' => e = .returned (strOf (hexL x)) ∧ Keep [] w w' :=
  (rword_any x w hx).mono (by rintro e w' ⟨S, rfl, hS, k⟩; exact ⟨by rw [strOf_of hS], k⟩)
/-- Two texts laid together, as an operation. -/
theorem exec_add {P : Program} {ev : Operand → Value} {x y : Operand} {l m : List UInt8} {dst : Option Tmp} {t t' ty : TypeId} {pos : String} {after : Array Edge} {gd : Option (Nat × Bool)} (hx : ev x = strOf l) (hy : ev y = strOf m) (hlm : l.length + m.length ≤ 1000000000000) (w : World) :
    (execOp ev ⟨dst, .binOp .add t x y t', ty, pos, after, gd⟩).run P w = .ok (.value (strOf (l ++ m))) w := by
  unfold execOp
  have e : (eqGuard BinOp.add t x y (strOf l) (strOf m) : Sem Unit) = pure () := rfl
  simp only [hx, hy, e, Sem.run_bind, run_add_str (P := P) t l m hlm w, Result.andThen_ok, Sem.run_pure]
theorem hexL_len (x : Nat) : (hexL x).length = 8 := hexN_len 8 x
theorem secT_len (x : Sct) : (secT x).length ≤ 33 := by
  have h1 := decL_len10 x.res
  have h2 := decL_len10 x.frm
  have h3 := decL_len10 x.to
  unfold secT
  simp
  omega
theorem flatT_len {α : Type} (f : α → List UInt8) (n : Nat) (h : ∀ x, (f x).length ≤ n) : ∀ l : List α, (l.flatMap f).length ≤ l.length * n
  | [] => by simp
  | x :: l => by
    rw [List.flatMap_cons, List.length_append, List.length_cons, Nat.add_mul]
    have := flatT_len f n h l
    have := h x
    omega
theorem partT_len (s : Stp) (c : Int) : (partT s c).length ≤ 11 + s.secs.length * 33 + s.words.length * 9 := by
  have h1 := decL_len10 s.a
  have h2 := decL_len10 s.n
  have h3 := flatT_len secT 33 secT_len s.secs
  have h4 := flatT_len wordT 9 (fun x => by unfold wordT; rw [List.length_cons, hexL_len]; omega) s.words
  have h5 := hexL_len s.n.toNat
  unfold partT
  split
  · simp; omega
  · split
    · simp; omega
    · split
      · unfold wordT; simp; omega
      · split
        · omega
        · split
          · omega
          · simp
theorem partsT_len (s : Stp) (p : ByteArray) : ∀ k, (partsT s p k).length ≤ k * (11 + s.secs.length * 33 + s.words.length * 9)
  | 0 => by simp [partsT]
  | k + 1 => by
    rw [partsT_succ, List.length_append, Nat.add_mul]
    have := partsT_len s p k
    have := partT_len s (byteAt p k)
    omega
end Go.Proofs.Ytoepkhkaifgddaa
