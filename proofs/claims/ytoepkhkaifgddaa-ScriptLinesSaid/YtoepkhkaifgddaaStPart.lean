/- A step that is being read, in memory: its block, and its two slices, which are its own; a piece read into it. Condition: the piece is no longer than a text of the law's. -/
import Derived.Test.YtoepkhkaifgddaaStSect
import Derived.Test.YtoepkhkaifgddaaDigWord
import Derived.Test.YtoepkhkaifgddaaRangeB
namespace Go.Proofs.Ytoepkhkaifgddaa
open Go.RowKit

/-- A piece as a part of a step. -/
def partP (s : Stp) (c : Int) (p : ByteArray) : Stp × Bool :=
  if c = 97 then ({ s with a := (readP (bytesOf p)).1 }, (readP (bytesOf p)).2 == 0)
  else if c = 110 then ({ s with n := (readP (bytesOf p)).1 }, (readP (bytesOf p)).2 == 0)
  else if c = 104 then ({ s with n := ((readWP (bytesOf p)).1 : Int) }, (readWP (bytesOf p)).2 == 0)
  else if c = 115 then ({ s with secs := s.secs ++ [(sectP p).1] }, (sectP p).2)
  else ({ s with words := s.words ++ [(readWP (bytesOf p)).1] }, (readWP (bytesOf p)).2 == 0)
def ownCells (s : Stp) (vs vw : Value) : List Value := [.int .i64 s.kind, .int .i64 s.a, .int .i64 s.n, vs, vw]
/-- The step s in the block B, its slices rows of its own from block b0 on. -/
structure OwnStp (w : World) (b0 B : Nat) (s : Stp) (vs vw : Value) : Prop where
  blk : Blk w B 45 (ownCells s vs vw).toArray
  secs : w.ownsRow b0 85 3 vs s.secs.length (s.secs.flatMap sctCells)
  words : w.ownsRow b0 77 1 vw s.words.length (u32s s.words)
def OwnSt (w : World) (b0 B : Nat) (s : Stp) : Prop := ∃ vs vw, OwnStp w b0 B s vs vw
section
variable {w w' : World} {b0 B : Nat} {s : Stp} {vs vw : Value}
theorem OwnStp.ne_secs (h : OwnStp w b0 B s vs vw) : vs.ownBlock ≠ some B := unown_ne h.secs h.blk (by decide)
theorem OwnStp.ne_words (h : OwnStp w b0 B s vs vw) : vw.ownBlock ≠ some B := unown_ne h.words h.blk (by decide)
theorem OwnStp.keep0 (h : OwnStp w b0 B s vs vw) (k : Keep [] w w') : OwnStp w' b0 B s vs vw := ⟨h.blk.keep0 k, own_keep0 h.secs k, own_keep0 h.words k⟩
/-- One of its numbers is written. -/
theorem OwnStp.num (h : OwnStp w b0 B s vs vw) (i : Nat) (u : Value) (s' : Stp) (e : (ownCells s vs vw).toArray.setIfInBounds i u = (ownCells s' vs vw).toArray) (e1 : s'.secs = s.secs) (e2 : s'.words = s.words) :
    OwnStp (w.setCell ⟨B, i, none⟩ u) b0 B s' vs vw := by
  have k : Keep [B] w (w.setCell ⟨B, i, none⟩ u) := (Keep.refl _ w).setCell (by simp) u
  refine ⟨?_, ?_, ?_⟩
  · have := h.blk.set_ i u
    rwa [e] at this
  · rw [e1]
    exact own_keep h.secs k (fun g hg hm => h.ne_secs (by simp at hm; rw [hg, hm]))
  · rw [e2]
    exact own_keep h.words k (fun g hg hm => h.ne_words (by simp at hm; rw [hg, hm]))
theorem row_apart {w : World} {b0 e1 e2 z1 z2 n1 n2 : Nat} {v1 v2 : Value} {x1 x2 : List Value} (h1 : w.ownsRow b0 e1 z1 v1 n1 x1) (h2 : w.ownsRow b0 e2 z2 v2 n2 x2) (hne : e1 ≠ e2) : ∀ g, v2.ownBlock = some g → g ∉ v1.ownBlock.toList := by
  intro g hg hm
  obtain ⟨c1, f1, q1⟩ := row_typed h1 g hm
  obtain ⟨c2, f2, q2⟩ := row_typed h2 g (by rw [hg]; simp)
  rw [q1] at q2
  cases q2
  exact hne rfl
/-- A section is appended. -/
theorem OwnStp.sec (h : OwnStp w b0 B s vs vw) {w1 : World} {v' : Value} (x : Sct) (h1 : w1.ownsRow b0 85 3 v' (s.secs.length + 1) (s.secs.flatMap sctCells ++ sctCells x)) (k : Keep vs.ownBlock.toList w w1) :
    OwnStp (w1.setCell ⟨B, 3, none⟩ v') b0 B { s with secs := s.secs ++ [x] } v' vw := by
  have hb : Blk w1 B 45 (ownCells s vs vw).toArray := h.blk.keep k (fun hm => h.ne_secs (by simpa using hm))
  have hw := own_keep h.words k (row_apart h.secs h.words (by decide))
  have k2 : Keep [B] w1 (w1.setCell ⟨B, 3, none⟩ v') := (Keep.refl _ w1).setCell (by simp) v'
  refine ⟨hb.set_ 3 v', ?_, own_keep hw k2 (fun g hg hm => h.ne_words (by simp at hm; rw [hg, hm]))⟩
  have := own_keep h1 k2 (fun g hg hm => unown_ne h1 hb (by decide) (by simp at hm; rw [hg, hm]))
  simpa using this
/-- A word is appended. -/
theorem OwnStp.word (h : OwnStp w b0 B s vs vw) {w1 : World} {v' : Value} (x : Nat) (h1 : w1.ownsRow b0 77 1 v' (s.words.length + 1) (u32s s.words ++ [.int .u32 (x : Int)])) (k : Keep vw.ownBlock.toList w w1) :
    OwnStp (w1.setCell ⟨B, 4, none⟩ v') b0 B { s with words := s.words ++ [x] } vs v' := by
  have hb : Blk w1 B 45 (ownCells s vs vw).toArray := h.blk.keep k (fun hm => h.ne_words (by simpa using hm))
  have hw := own_keep h.secs k (row_apart h.words h.secs (by decide))
  have k2 : Keep [B] w1 (w1.setCell ⟨B, 4, none⟩ v') := (Keep.refl _ w1).setCell (by simp) v'
  refine ⟨hb.set_ 4 v', own_keep hw k2 (fun g hg hm => h.ne_secs (by simp at hm; rw [hg, hm])), ?_⟩
  have := own_keep h1 k2 (fun g hg hm => unown_ne h1 hb (by decide) (by simp at hm; rw [hg, hm]))
  simpa [u32s] using this
end
end Go.Proofs.Ytoepkhkaifgddaa
