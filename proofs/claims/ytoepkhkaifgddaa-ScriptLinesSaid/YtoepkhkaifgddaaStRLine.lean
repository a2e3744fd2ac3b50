/- The line of a step, as the document tells it. No condition. -/
import Derived.Test.YtoepkhkaifgddaaStLineW
import Derived.Test.YtoepkhkaifgddaaStRRight
namespace Go.Proofs.Ytoepkhkaifgddaa
open Go.RowKit

def lineR (s : Stp) (p : ByteArray) : List UInt8 :=
  (if hasB p 97 = true then 32 :: decL (clampN s.a) else []) ++ ((if hasB p 110 = true then 32 :: decL (clampN s.n) else []) ++ ((if hasB p 104 = true then wordT s.n.toNat else []) ++ (s.secs.flatMap secT ++ s.words.flatMap wordT)))
theorem line_ref {s : Stp} (hr : rightP s = true) : lineT s = bytesOf (shp s.kind).1 ++ lineR s (shp s.kind).2 := by
  have hr0 := hr
  unfold rightP at hr0
  simp only [Bool.and_eq_true] at hr0
  have h115 : hasB (shp s.kind).2 115 = false → s.secs = [] := fun h => by
    have h1 := hr0.1.2.2
    rw [h] at h1
    cases hs : s.secs with
    | nil => rfl
    | cons x l => rw [hs] at h1; simp at h1
  have h119 : hasB (shp s.kind).2 119 = false → s.words = [] := fun h => by
    have h1 := hr0.2
    rw [h] at h1
    exact List.length_eq_zero_iff.1 (by simpa using h1)
  have hik := hr0.1.1.1.1
  unfold lineT
  rw [if_pos hr]
  congr 1
  clear hr0
  unfold isKind at hik
  simp only [Bool.and_eq_true, decide_eq_true_eq] at hik
  obtain ⟨kind, a, n, secs, words⟩ := s
  dsimp only at *
  have : kind = 1 ∨ kind = 2 ∨ kind = 3 ∨ kind = 4 ∨ kind = 5 ∨ kind = 6 ∨ kind = 7 ∨ kind = 8 ∨ kind = 9 ∨ kind = 10 ∨ kind = 11 ∨ kind = 12 ∨ kind = 13 ∨ kind = 14 ∨ kind = 15 := by omega
  clear hik hr
  unfold lineR
  rcases this with rfl | rfl | rfl | rfl | rfl | rfl | rfl | rfl | rfl | rfl | rfl | rfl | rfl | rfl | rfl
  · have e0 : partsT ⟨1, a, n, secs, words⟩ (shp 1).2 (shp 1).2.size = partT ⟨1, a, n, secs, words⟩ 110 ++ ([]) := rfl
    have ea : hasB (shp 1).2 97 = false := by decide
    have en : hasB (shp 1).2 110 = true := by decide
    have eh : hasB (shp 1).2 104 = false := by decide
    have es : hasB (shp 1).2 115 = false := by decide
    have ew : hasB (shp 1).2 119 = false := by decide
    obtain rfl := h115 es
    obtain rfl := h119 ew
    rw [e0, ea, en, eh]
    simp [partT]
  · have e0 : partsT ⟨2, a, n, secs, words⟩ (shp 2).2 (shp 2).2.size = partT ⟨2, a, n, secs, words⟩ 97 ++ (partT ⟨2, a, n, secs, words⟩ 110 ++ (partT ⟨2, a, n, secs, words⟩ 115 ++ ([]))) := rfl
    have ea : hasB (shp 2).2 97 = true := by decide
    have en : hasB (shp 2).2 110 = true := by decide
    have eh : hasB (shp 2).2 104 = false := by decide
    have es : hasB (shp 2).2 115 = true := by decide
    have ew : hasB (shp 2).2 119 = false := by decide
    obtain rfl := h119 ew
    rw [e0, ea, en, eh]
    simp [partT]
  · have e0 : partsT ⟨3, a, n, secs, words⟩ (shp 3).2 (shp 3).2.size = partT ⟨3, a, n, secs, words⟩ 97 ++ ([]) := rfl
    have ea : hasB (shp 3).2 97 = true := by decide
    have en : hasB (shp 3).2 110 = false := by decide
    have eh : hasB (shp 3).2 104 = false := by decide
    have es : hasB (shp 3).2 115 = false := by decide
    have ew : hasB (shp 3).2 119 = false := by decide
    obtain rfl := h115 es
    obtain rfl := h119 ew
    rw [e0, ea, en, eh]
    simp [partT]
  · have e0 : partsT ⟨4, a, n, secs, words⟩ (shp 4).2 (shp 4).2.size = partT ⟨4, a, n, secs, words⟩ 97 ++ (partT ⟨4, a, n, secs, words⟩ 110 ++ ([])) := rfl
    have ea : hasB (shp 4).2 97 = true := by decide
    have en : hasB (shp 4).2 110 = true := by decide
    have eh : hasB (shp 4).2 104 = false := by decide
    have es : hasB (shp 4).2 115 = false := by decide
    have ew : hasB (shp 4).2 119 = false := by decide
    obtain rfl := h115 es
    obtain rfl := h119 ew
    rw [e0, ea, en, eh]
    simp [partT]
  · have e0 : partsT ⟨5, a, n, secs, words⟩ (shp 5).2 (shp 5).2.size = partT ⟨5, a, n, secs, words⟩ 97 ++ ([]) := rfl
    have ea : hasB (shp 5).2 97 = true := by decide
    have en : hasB (shp 5).2 110 = false := by decide
    have eh : hasB (shp 5).2 104 = false := by decide
    have es : hasB (shp 5).2 115 = false := by decide
    have ew : hasB (shp 5).2 119 = false := by decide
    obtain rfl := h115 es
    obtain rfl := h119 ew
    rw [e0, ea, en, eh]
    simp [partT]
  · have e0 : partsT ⟨6, a, n, secs, words⟩ (shp 6).2 (shp 6).2.size = partT ⟨6, a, n, secs, words⟩ 104 ++ ([]) := rfl
    have ea : hasB (shp 6).2 97 = false := by decide
    have en : hasB (shp 6).2 110 = false := by decide
    have eh : hasB (shp 6).2 104 = true := by decide
    have es : hasB (shp 6).2 115 = false := by decide
    have ew : hasB (shp 6).2 119 = false := by decide
    obtain rfl := h115 es
    obtain rfl := h119 ew
    rw [e0, ea, en, eh]
    simp [partT]
  · have e0 : partsT ⟨7, a, n, secs, words⟩ (shp 7).2 (shp 7).2.size = partT ⟨7, a, n, secs, words⟩ 104 ++ ([]) := rfl
    have ea : hasB (shp 7).2 97 = false := by decide
    have en : hasB (shp 7).2 110 = false := by decide
    have eh : hasB (shp 7).2 104 = true := by decide
    have es : hasB (shp 7).2 115 = false := by decide
    have ew : hasB (shp 7).2 119 = false := by decide
    obtain rfl := h115 es
    obtain rfl := h119 ew
    rw [e0, ea, en, eh]
    simp [partT]
  · have e0 : partsT ⟨8, a, n, secs, words⟩ (shp 8).2 (shp 8).2.size = partT ⟨8, a, n, secs, words⟩ 97 ++ (partT ⟨8, a, n, secs, words⟩ 104 ++ ([])) := rfl
    have ea : hasB (shp 8).2 97 = true := by decide
    have en : hasB (shp 8).2 110 = false := by decide
    have eh : hasB (shp 8).2 104 = true := by decide
    have es : hasB (shp 8).2 115 = false := by decide
    have ew : hasB (shp 8).2 119 = false := by decide
    obtain rfl := h115 es
    obtain rfl := h119 ew
    rw [e0, ea, en, eh]
    simp [partT]
  · have e0 : partsT ⟨9, a, n, secs, words⟩ (shp 9).2 (shp 9).2.size = [] := rfl
    have ea : hasB (shp 9).2 97 = false := by decide
    have en : hasB (shp 9).2 110 = false := by decide
    have eh : hasB (shp 9).2 104 = false := by decide
    have es : hasB (shp 9).2 115 = false := by decide
    have ew : hasB (shp 9).2 119 = false := by decide
    obtain rfl := h115 es
    obtain rfl := h119 ew
    rw [e0, ea, en, eh]
    simp [partT]
  · have e0 : partsT ⟨10, a, n, secs, words⟩ (shp 10).2 (shp 10).2.size = partT ⟨10, a, n, secs, words⟩ 119 ++ ([]) := rfl
    have ea : hasB (shp 10).2 97 = false := by decide
    have en : hasB (shp 10).2 110 = false := by decide
    have eh : hasB (shp 10).2 104 = false := by decide
    have es : hasB (shp 10).2 115 = false := by decide
    have ew : hasB (shp 10).2 119 = true := by decide
    obtain rfl := h115 es
    rw [e0, ea, en, eh]
    simp [partT]
  · have e0 : partsT ⟨11, a, n, secs, words⟩ (shp 11).2 (shp 11).2.size = [] := rfl
    have ea : hasB (shp 11).2 97 = false := by decide
    have en : hasB (shp 11).2 110 = false := by decide
    have eh : hasB (shp 11).2 104 = false := by decide
    have es : hasB (shp 11).2 115 = false := by decide
    have ew : hasB (shp 11).2 119 = false := by decide
    obtain rfl := h115 es
    obtain rfl := h119 ew
    rw [e0, ea, en, eh]
    simp [partT]
  · have e0 : partsT ⟨12, a, n, secs, words⟩ (shp 12).2 (shp 12).2.size = [] := rfl
    have ea : hasB (shp 12).2 97 = false := by decide
    have en : hasB (shp 12).2 110 = false := by decide
    have eh : hasB (shp 12).2 104 = false := by decide
    have es : hasB (shp 12).2 115 = false := by decide
    have ew : hasB (shp 12).2 119 = false := by decide
    obtain rfl := h115 es
    obtain rfl := h119 ew
    rw [e0, ea, en, eh]
    simp [partT]
  · have e0 : partsT ⟨13, a, n, secs, words⟩ (shp 13).2 (shp 13).2.size = partT ⟨13, a, n, secs, words⟩ 97 ++ (partT ⟨13, a, n, secs, words⟩ 104 ++ ([])) := rfl
    have ea : hasB (shp 13).2 97 = true := by decide
    have en : hasB (shp 13).2 110 = false := by decide
    have eh : hasB (shp 13).2 104 = true := by decide
    have es : hasB (shp 13).2 115 = false := by decide
    have ew : hasB (shp 13).2 119 = false := by decide
    obtain rfl := h115 es
    obtain rfl := h119 ew
    rw [e0, ea, en, eh]
    simp [partT]
  · have e0 : partsT ⟨14, a, n, secs, words⟩ (shp 14).2 (shp 14).2.size = [] := rfl
    have ea : hasB (shp 14).2 97 = false := by decide
    have en : hasB (shp 14).2 110 = false := by decide
    have eh : hasB (shp 14).2 104 = false := by decide
    have es : hasB (shp 14).2 115 = false := by decide
    have ew : hasB (shp 14).2 119 = false := by decide
    obtain rfl := h115 es
    obtain rfl := h119 ew
    rw [e0, ea, en, eh]
    simp [partT]
  · have e0 : partsT ⟨15, a, n, secs, words⟩ (shp 15).2 (shp 15).2.size = [] := rfl
    have ea : hasB (shp 15).2 97 = false := by decide
    have en : hasB (shp 15).2 110 = false := by decide
    have eh : hasB (shp 15).2 104 = false := by decide
    have es : hasB (shp 15).2 115 = false := by decide
    have ew : hasB (shp 15).2 119 = false := by decide
    obtain rfl := h115 es
    obtain rfl := h119 ew
    rw [e0, ea, en, eh]
    simp [partT]
end Go.Proofs.Ytoepkhkaifgddaa
