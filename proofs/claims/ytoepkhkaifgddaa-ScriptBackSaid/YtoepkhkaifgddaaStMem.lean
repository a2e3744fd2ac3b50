/- Steps, and where a row of steps lies in memory: each with its slice of sections and its slice of words. An argument that is such a row, opened to its cells. No condition. -/
import Derived.Test.YtoepkhkaifgddaaImgOpen
namespace Go.Proofs.Ytoepkhkaifgddaa
open Go.ChangeShapes Go.WideShapes Go.ChangeAt Go.RowKit Go.Deep

structure Sct where
  res : Int
  frm : Int
  to : Int
deriving DecidableEq
structure Stp where
  kind : Int
  a : Int
  n : Int
  secs : List Sct
  words : List Nat
deriving DecidableEq
/-- Where a step's two slices lie, and their capacities. -/
structure StpV where
  sa : Option Addr
  sc : Nat
  wa : Option Addr
  wc : Nat
def sctInts (s : Sct) : List Int := [s.res, s.frm, s.to]
def sctCells (s : Sct) : List Value := iv (sctInts s)
def u32s (l : List Nat) : List Value := l.map (fun (k : Nat) => Value.int .u32 (k : Int))
def stpCells (m : Stp × StpV) : List Value := [.int .i64 m.1.kind, .int .i64 m.1.a, .int .i64 m.1.n, .slice m.2.sa m.1.secs.length m.2.sc, .slice m.2.wa m.1.words.length m.2.wc]

theorem u32s_flat : ∀ (us : List Nat), u32s us = us.flatMap (fun (k : Nat) => [Value.int .u32 (k : Int)])
  | [] => rfl
  | u :: us => by rw [List.flatMap_cons, ← u32s_flat us]; rfl

structure StepAt (w : World) (v : StpV) (s : Stp) : Prop where
  secs : Reads w 3 v.sa s.secs.length (s.secs.flatMap sctCells)
  words : Reads w 1 v.wa s.words.length (u32s s.words)
  ok : ∀ k ∈ s.words, k < 4294967296
  ls : s.secs.length ≤ maxLen
  lw : s.words.length ≤ maxLen
structure StepsAt (w : World) (A : Option Addr) (ms : List (Stp × StpV)) : Prop where
  rows : Reads w 5 A ms.length (ms.flatMap stpCells)
  each : ∀ m ∈ ms, StepAt w m.2 m.1
  len : ms.length ≤ maxLen

section
variable {w w' : World} {v : StpV} {s : Stp} {A : Option Addr} {ms : List (Stp × StpV)}
theorem StepAt.keep0 (h : StepAt w v s) (k : Keep [] w w') : StepAt w' v s := ⟨h.secs.keep0 k, h.words.keep0 k, h.ok, h.ls, h.lw⟩
theorem StepsAt.keep0 (h : StepsAt w A ms) (k : Keep [] w w') : StepsAt w' A ms := ⟨h.rows.keep0 k, fun m hm => (h.each m hm).keep0 k, h.len⟩
theorem StepsAt.step (h : StepsAt w A ms) (h0 : 0 < ms.length) : ∃ b o, A = some ⟨b, o, none⟩ ∧ b < w.heap.size ∧ ∀ k, (hk : k < ms.length) → CellsAt w b (o + k * 5) (stpCells ms[k]) :=
  h.rows.elems rfl (fun _ _ => rfl) h0
theorem StepAt.sec (h : StepAt w v s) (h0 : 0 < s.secs.length) : ∃ b o, v.sa = some ⟨b, o, none⟩ ∧ b < w.heap.size ∧ ∀ k, (hk : k < s.secs.length) → CellsAt w b (o + k * 3) (sctCells s.secs[k]) :=
  h.secs.elems rfl (fun _ _ => rfl) h0
theorem StepAt.word (h : StepAt w v s) (h0 : 0 < s.words.length) : ∃ b o, v.wa = some ⟨b, o, none⟩ ∧ b < w.heap.size ∧ ∀ k, (hk : k < s.words.length) → w.cell? ⟨b, o + k, none⟩ = some (.int .u32 (s.words[k] : Int)) := by
  obtain ⟨b, o, e, hb, hc⟩ := h.words.addr h0
  exact ⟨b, o, e, hb, fun k hk => hc k _ (by simp [u32s, hk])⟩
end

theorem agg_step : AggOf Try.prog 45 5 := ⟨by kernel_rfl, by kernel_rfl⟩
theorem agg_section : AggOf Try.prog 85 3 := ⟨by kernel_rfl, by kernel_rfl⟩
theorem rI_section : RdI Try.prog 85 3 := rdI_struct Try.underlying85 (by kernel_rfl) ⟨rfl, 1, by kernel_rfl, rI_int, rfl, 1, by kernel_rfl, rI_int, rfl, 1, by kernel_rfl, rI_int, rfl⟩
section
variable {H : Type} {enc : TypeId × Value → H} {w : World} {base : Nat} {spare : Nat → Bool} {held : Bool}
theorem rd_section {n : Nat} {cs : List Value} {x : DataW H × List MemPlace} (h : DataW.trod enc Try.prog w base spare held n 85 cs = some x) : ∃ t : Sct, cs = sctCells t ∧ True := by
  obtain ⟨xs, rfl, hl⟩ := rI_section.list h
  match xs, hl with
  | [a, b, c], _ => exact ⟨⟨a, b, c⟩, rfl, trivial⟩
set_option maxRecDepth 100000 in
theorem rd_step {n : Nat} {cs : List Value} {x : DataW H × List MemPlace} (h : DataW.trod enc Try.prog w base spare held n 45 cs = some x) : ∃ m : Stp × StpV, cs = stpCells m ∧ StepAt w m.2 m.1 := by
  obtain ⟨xs, m, _, _, hlen, hxl, hf⟩ := DataW.trod_struct Try.underlying45 h
  have hC : Try.prog.cellsOf 45 = 5 := by kernel_rfl
  have c0 : Try.prog.cellsOf 41 = 1 := by kernel_rfl
  have c1 : Try.prog.cellsOf 3 = 1 := by kernel_rfl
  have c3 : Try.prog.cellsOf 42 = 1 := by kernel_rfl
  have c4 : Try.prog.cellsOf 43 = 1 := by kernel_rfl
  rw [hC] at hlen
  match cs, hlen, xs, hxl with
  | [v0, v1, v2, v3, v4], _, [y0, y1, y2, y3, y4], _ =>
    have h0 : DataW.trod enc Try.prog w base spare held m 41 (List.take (Try.prog.cellsOf 41) (List.drop 0 [v0, v1, v2, v3, v4])) = some y0 := hf 0 _ rfl
    rw [c0] at h0
    have h1 : DataW.trod enc Try.prog w base spare held m 3 (List.take (Try.prog.cellsOf 3) (List.drop 1 [v0, v1, v2, v3, v4])) = some y1 := hf 1 _ rfl
    rw [c1] at h1
    have h2 : DataW.trod enc Try.prog w base spare held m 3 (List.take (Try.prog.cellsOf 3) (List.drop 2 [v0, v1, v2, v3, v4])) = some y2 := hf 2 _ rfl
    rw [c1] at h2
    have h3 : DataW.trod enc Try.prog w base spare held m 42 (List.take (Try.prog.cellsOf 42) (List.drop 3 [v0, v1, v2, v3, v4])) = some y3 := hf 3 _ rfl
    rw [c3] at h3
    have h4 : DataW.trod enc Try.prog w base spare held m 43 (List.take (Try.prog.cellsOf 43) (List.drop 4 [v0, v1, v2, v3, v4])) = some y4 := hf 4 _ rfl
    rw [c4] at h4
    obtain ⟨k0, e0, _, _⟩ := DataW.trod_int Try.underlying41 h0
    obtain ⟨k1, e1, _, _⟩ := DataW.trod_int Try.underlying3 h1
    obtain ⟨k2, e2, _, _⟩ := DataW.trod_int Try.underlying3 h2
    obtain ⟨A3, n3, q3, ss, e3, a1, a2, a3, a4, _⟩ := rd_plain (cells := sctCells) (ok := fun _ => True) (size := 3) Try.underlying42 (by kernel_rfl) (by decide) (fun n cs x h => rd_section h) h3
    obtain ⟨A4, n4, q4, us, e4, b1, b2, b3, b4, b5⟩ := rd_plain (cells := fun (k : Nat) => [Value.int .u32 (k : Int)]) (ok := fun k => k < 4294967296) (size := 1) Try.underlying43 (by kernel_rfl) (by decide)
      (fun n cs x h => by obtain ⟨k, rfl, _, hw⟩ := DataW.trod_int Try.underlying77 h; obtain ⟨s, rfl, hs⟩ := wf_bounds_u32 hw; exact ⟨s, rfl, hs⟩) h4
    obtain rfl : v0 = .int .i64 k0 := by simpa using e0
    obtain rfl : v1 = .int .i64 k1 := by simpa using e1
    obtain rfl : v2 = .int .i64 k2 := by simpa using e2
    obtain rfl : v3 = .slice A3 n3 q3 := by simpa using e3
    obtain rfl : v4 = .slice A4 n4 q4 := by simpa using e4
    subst a3
    subst b3
    refine ⟨(⟨k0, k1, k2, ss, us⟩, ⟨A3, q3, A4, q4⟩), rfl, a4, ?_, b5, Nat.le_trans a1 a2, Nat.le_trans b1 b2⟩
    have : u32s us = us.flatMap (fun (k : Nat) => [Value.int .u32 (k : Int)]) := u32s_flat us
    rw [this]
    exact b4
/-- An argument that is a row of steps. -/
theorem rd_steps {n : Nat} {cs : List Value} {x : DataW H × List MemPlace} (h : DataW.trod enc Try.prog w base spare held n 35 cs = some x) :
    ∃ (A : Option Addr) (c : Nat) (ms : List (Stp × StpV)), cs = [.slice A ms.length c] ∧ StepsAt w A ms := by
  obtain ⟨A, k, c, xs, rfl, h1, h2, h3, h4, h5⟩ := rd_plain (cells := stpCells) (ok := fun m => StepAt w m.2 m.1) (size := 5) Try.underlying35 (by kernel_rfl) (by decide) (fun n cs x h => rd_step h) h
  subst h3
  exact ⟨A, c, xs, rfl, h4, h5, Nat.le_trans h1 h2⟩
end
end Go.Proofs.Ytoepkhkaifgddaa
