/- Steps, and where a row of steps lies in memory: each with its slice of sections and its slice of words. An argument that is such a row, opened to its cells. No condition. The word and the parts of each kind of step: the program's answer. No condition. The kind of a word: the program's answer. No condition. Where a byte lies first in a text; has a shape a part; a piece parted at a byte. No condition. -/
import Derived.Test.YtoepkhkaifgddaaImgOpen
import Derived.Deep.LoopGhost
import Derived.Lib.Bytealg
namespace Go.Proofs.Ytoepkhkaifgddaa
open Go.ChangeShapes Go.WideShapes Go.ChangeAt Go.RowKit Go.Deep

structure Sct where
  res : Int
  frm : Int
  to : Int
deriving DecidableEq
structure Stp where
  kind : Int
  a : Int
  n : Int
  secs : List Sct
  words : List Nat
deriving DecidableEq
/-- Where a step's two slices lie, and their capacities. -/
structure StpV where
  sa : Option Addr
  sc : Nat
  wa : Option Addr
  wc : Nat
def sctInts (s : Sct) : List Int := [s.res, s.frm, s.to]
def sctCells (s : Sct) : List Value := iv (sctInts s)
def u32s (l : List Nat) : List Value := l.map (fun (k : Nat) => Value.int .u32 (k : Int))
def stpCells (m : Stp × StpV) : List Value := [.int .i64 m.1.kind, .int .i64 m.1.a, .int .i64 m.1.n, .slice m.2.sa m.1.secs.length m.2.sc, .slice m.2.wa m.1.words.length m.2.wc]

theorem u32s_flat : ∀ (us : List Nat), u32s us = us.flatMap (fun (k : Nat) => [Value.int .u32 (k : Int)])
  | [] => rfl
  | u :: us => by rw [List.flatMap_cons, ← u32s_flat us]; rfl

structure StepAt (w : World) (v : StpV) (s : Stp) : Prop where
  secs : Reads w 3 v.sa s.secs.length (s.secs.flatMap sctCells)
  words : Reads w 1 v.wa s.words.length (u32s s.words)
  ok : ∀ k ∈ s.words, k < 4294967296
  ls : s.secs.length ≤ maxLen
  lw : s.words.length ≤ maxLen
structure StepsAt (w : World) (A : Option Addr) (ms : List (Stp × StpV)) : Prop where
  rows : Reads w 5 A ms.length (ms.flatMap stpCells)
  each : ∀ m ∈ ms, StepAt w m.2 m.1
  len : ms.length ≤ maxLen

section
variable {w w' : World} {v : StpV} {s : Stp} {A : Option Addr} {ms : List (Stp × StpV)}
theorem StepAt.keep0 (h : StepAt w v s) (k : Keep [] w w') : StepAt w' v s := ⟨h.secs.keep0 k, h.words.keep0 k, h.ok, h.ls, h.lw⟩
theorem StepsAt.keep0 (h : StepsAt w A ms) (k : Keep [] w w') : StepsAt w' A ms := ⟨h.rows.keep0 k, fun m hm => (h.each m hm).keep0 k, h.len⟩
theorem StepsAt.step (h : StepsAt w A ms) (h0 : 0 < ms.length) : ∃ b o, A = some ⟨b, o, none⟩ ∧ b < w.heap.size ∧ ∀ k, (hk : k < ms.length) → CellsAt w b (o + k * 5) (stpCells ms[k]) :=
  h.rows.elems rfl (fun _ _ => rfl) h0
theorem StepAt.sec (h : StepAt w v s) (h0 : 0 < s.secs.length) : ∃ b o, v.sa = some ⟨b, o, none⟩ ∧ b < w.heap.size ∧ ∀ k, (hk : k < s.secs.length) → CellsAt w b (o + k * 3) (sctCells s.secs[k]) :=
  h.secs.elems rfl (fun _ _ => rfl) h0
theorem StepAt.word (h : StepAt w v s) (h0 : 0 < s.words.length) : ∃ b o, v.wa = some ⟨b, o, none⟩ ∧ b < w.heap.size ∧ ∀ k, (hk : k < s.words.length) → w.cell? ⟨b, o + k, none⟩ = some (.int .u32 (s.words[k] : Int)) := by
  obtain ⟨b, o, e, hb, hc⟩ := h.words.addr h0
  exact ⟨b, o, e, hb, fun k hk => hc k _ (by simp [u32s, hk])⟩
end

theorem agg_step : AggOf Try.prog 45 5 := ⟨by kernel_rfl, by kernel_rfl⟩
theorem agg_section : AggOf Try.prog 85 3 := ⟨by kernel_rfl, by kernel_rfl⟩
theorem rI_section : RdI Try.prog 85 3 := rdI_struct Try.underlying85 (by kernel_rfl) ⟨rfl, 1, by kernel_rfl, rI_int, rfl, 1, by kernel_rfl, rI_int, rfl, 1, by kernel_rfl, rI_int, rfl⟩
section
variable {H : Type} {enc : TypeId × Value → H} {w : World} {base : Nat} {spare : Nat → Bool} {held : Bool}
theorem rd_section {n : Nat} {cs : List Value} {x : DataW H × List MemPlace} (h : DataW.trod enc Try.prog w base spare held n 85 cs = some x) : ∃ t : Sct, cs = sctCells t ∧ True := by
  obtain ⟨xs, rfl, hl⟩ := rI_section.list h
  match xs, hl with
  | [a, b, c], _ => exact ⟨⟨a, b, c⟩, rfl, trivial⟩
set_option maxRecDepth 100000 in
theorem rd_step {n : Nat} {cs : List Value} {x : DataW H × List MemPlace} (h : DataW.trod enc Try.prog w base spare held n 45 cs = some x) : ∃ m : Stp × StpV, cs = stpCells m ∧ StepAt w m.2 m.1 := by
  obtain ⟨xs, m, _, _, hlen, hxl, hf⟩ := DataW.trod_struct Try.underlying45 h
  have hC : Try.prog.cellsOf 45 = 5 := by kernel_rfl
  have c0 : Try.prog.cellsOf 41 = 1 := by kernel_rfl
  have c1 : Try.prog.cellsOf 3 = 1 := by kernel_rfl
  have c3 : Try.prog.cellsOf 42 = 1 := by kernel_rfl
  have c4 : Try.prog.cellsOf 43 = 1 := by kernel_rfl
  rw [hC] at hlen
  match cs, hlen, xs, hxl with
  | [v0, v1, v2, v3, v4], _, [y0, y1, y2, y3, y4], _ =>
    have h0 : DataW.trod enc Try.prog w base spare held m 41 (List.take (Try.prog.cellsOf 41) (List.drop 0 [v0, v1, v2, v3, v4])) = some y0 := hf 0 _ rfl
    rw [c0] at h0
    have h1 : DataW.trod enc Try.prog w base spare held m 3 (List.take (Try.prog.cellsOf 3) (List.drop 1 [v0, v1, v2, v3, v4])) = some y1 := hf 1 _ rfl
    rw [c1] at h1
    have h2 : DataW.trod enc Try.prog w base spare held m 3 (List.take (Try.prog.cellsOf 3) (List.drop 2 [v0, v1, v2, v3, v4])) = some y2 := hf 2 _ rfl
    rw [c1] at h2
    have h3 : DataW.trod enc Try.prog w base spare held m 42 (List.take (Try.prog.cellsOf 42) (List.drop 3 [v0, v1, v2, v3, v4])) = some y3 := hf 3 _ rfl
    rw [c3] at h3
    have h4 : DataW.trod enc Try.prog w base spare held m 43 (List.take (Try.prog.cellsOf 43) (List.drop 4 [v0, v1, v2, v3, v4])) = some y4 := hf 4 _ rfl
    rw [c4] at h4
    obtain ⟨k0, e0, _, _⟩ := DataW.trod_int Try.underlying41 h0
    obtain ⟨k1, e1, _, _⟩ := DataW.trod_int Try.underlying3 h1
    obtain ⟨k2, e2, _, _⟩ := DataW.trod_int Try.underlying3 h2
    obtain ⟨A3, n3, q3, ss, e3, a1, a2, a3, a4, _⟩ := rd_plain (cells := sctCells) (ok := fun _ => True) (size := 3) Try.underlying42 (by kernel_rfl) (by decide) (fun n cs x h => rd_section h) h3
    obtain ⟨A4, n4, q4, us, e4, b1, b2, b3, b4, b5⟩ := rd_plain (cells := fun (k : Nat) => [Value.int .u32 (k : Int)]) (ok := fun k => k < 4294967296) (size := 1) Try.underlying43 (by kernel_rfl) (by decide)
      (fun n cs x h => by obtain ⟨k, rfl, _, hw⟩ := DataW.trod_int Try.underlying77 h; obtain ⟨s, rfl, hs⟩ := wf_bounds_u32 hw; exact ⟨s, rfl, hs⟩) h4
    obtain rfl : v0 = .int .i64 k0 := by simpa using e0
    obtain rfl : v1 = .int .i64 k1 := by simpa using e1
    obtain rfl : v2 = .int .i64 k2 := by simpa using e2
    obtain rfl : v3 = .slice A3 n3 q3 := by simpa using e3
    obtain rfl : v4 = .slice A4 n4 q4 := by simpa using e4
    subst a3
    subst b3
    refine ⟨(⟨k0, k1, k2, ss, us⟩, ⟨A3, q3, A4, q4⟩), rfl, a4, ?_, b5, Nat.le_trans a1 a2, Nat.le_trans b1 b2⟩
    have : u32s us = us.flatMap (fun (k : Nat) => [Value.int .u32 (k : Int)]) := u32s_flat us
    rw [this]
    exact b4
/-- An argument that is a row of steps. -/
theorem rd_steps {n : Nat} {cs : List Value} {x : DataW H × List MemPlace} (h : DataW.trod enc Try.prog w base spare held n 35 cs = some x) :
    ∃ (A : Option Addr) (c : Nat) (ms : List (Stp × StpV)), cs = [.slice A ms.length c] ∧ StepsAt w A ms := by
  obtain ⟨A, k, c, xs, rfl, h1, h2, h3, h4, h5⟩ := rd_plain (cells := stpCells) (ok := fun m => StepAt w m.2 m.1) (size := 5) Try.underlying35 (by kernel_rfl) (by decide) (fun n cs x h => rd_step h) h
  subst h3
  exact ⟨A, c, xs, rfl, h4, h5, Nat.le_trans h1 h2⟩
end
end Go.Proofs.Ytoepkhkaifgddaa

namespace Go.Proofs.Ytoepkhkaifgddaa
open Go.RowKit

/-- The word and the parts of a kind; both empty: there is no such kind. -/
def shp (k : Int) : ByteArray × ByteArray :=
  if k = 1 then ({ data := #[116, 105, 99, 107] }, { data := #[110] })
  else if k = 2 then ({ data := #[111, 102, 102, 101, 114] }, { data := #[97, 110, 115] })
  else if k = 3 then ({ data := #[114, 101, 113, 117, 101, 115, 116] }, { data := #[97] })
  else if k = 4 then ({ data := #[115, 101, 110, 100] }, { data := #[97, 110] })
  else if k = 5 then ({ data := #[116, 97, 107, 101] }, { data := #[97] })
  else if k = 6 then ({ data := #[115, 101, 116] }, { data := #[104] })
  else if k = 7 then ({ data := #[99, 108, 101, 97, 114] }, { data := #[104] })
  else if k = 8 then ({ data := #[116, 101, 115, 116] }, { data := #[97, 104] })
  else if k = 9 then ({ data := #[98, 101, 103, 105, 110] }, { data := #[] })
  else if k = 10 then ({ data := #[112, 117, 116] }, { data := #[119] })
  else if k = 11 then ({ data := #[99, 111, 109, 109, 105, 116] }, { data := #[] })
  else if k = 12 then ({ data := #[99, 111, 110, 102, 105, 114, 109] }, { data := #[] })
  else if k = 13 then ({ data := #[99, 117, 116] }, { data := #[97, 104] })
  else if k = 14 then ({ data := #[111, 102, 102] }, { data := #[] })
  else if k = 15 then ({ data := #[98, 111, 111, 116] }, { data := #[] })
  else ({ data := #[] }, { data := #[] })
/-- There is such a kind. -/
def isKind (k : Int) : Bool := decide (1 ≤ k) && decide (k ≤ 15)
theorem st_results {P : Program} {w : World} {fn : Func} {p q : Tmp} {ty : TypeId} (h : fn.results = #[.cell p ty, .tmp q]) (tmps : Array Value) {g t : Nat} {vs : List Value} {v : Value} (hp : tmps.getD p undef = .pointer (some ⟨g, 0, none⟩)) (hq : tmps.getD q undef = v)
    (hb : Blk w g t vs.toArray) (hA : AggOf P ty vs.length) : (results fn tmps).run P w = .ok (.tuple #[.agg vs.toArray, v]) w := by
  have hp' : tmps[p]?.getD undef = .pointer (some ⟨g, 0, none⟩) := by simpa using hp
  have hq' : tmps[q]?.getD undef = v := by simpa using hq
  have hc : CellsAt w g 0 vs := fun j u hu => by rw [Nat.zero_add, hb.cell]; simpa using hu
  simp [results, h, hp', hq', asAddr, run_loadVar_agg hA hc]

theorem agg_shape : AggOf Try.prog 95 2 := ⟨by kernel_rfl, by kernel_rfl⟩

set_option maxRecDepth 100000 in
set_option maxHeartbeats 2000000 in
theorem shapeOf_any (k : Int) (w : World) :
    Calls Try.prog 48 #[.int .i64 k] w fun e w' => e = .returned (.tuple #[.agg #[.string (shp k).1, .string (shp k).2], .bool (isKind k)]) ∧ Keep [] w w' := by
  by_cases hk : 1 ≤ k ∧ k ≤ 15
  · have : k = 1 ∨ k = 2 ∨ k = 3 ∨ k = 4 ∨ k = 5 ∨ k = 6 ∨ k = 7 ∨ k = 8 ∨ k = 9 ∨ k = 10 ∨ k = 11 ∨ k = 12 ∨ k = 13 ∨ k = 14 ∨ k = 15 := by omega
    clear hk
    rcases this with rfl | rfl | rfl | rfl | rfl | rfl | rfl | rfl | rfl | rfl | rfl | rfl | rfl | rfl | rfl
    all_goals
      go_enter Try.func48, Try.ntmps48
      go_wp2
      refine bodyPost_ret (st_results rfl _ rfl rfl (vs := [_, _]) (Blk.new _ _ _) agg_shape) rfl ?_
      exact ⟨rfl, (Keep.refl _ w).alloc _⟩
  · have hs : shp k = ({ data := #[] }, { data := #[] }) := by unfold shp; (repeat rw [if_neg (by omega)])
    have hi : isKind k = false := by unfold isKind; simp; omega
    rw [hs, hi]
    have q : ∀ i : Int, 1 ≤ i → i ≤ 15 → (k == i) = false := fun i h1 h2 => by simp; omega
    have q1 := q 1 (by decide) (by decide)
    have q2 := q 2 (by decide) (by decide)
    have q3 := q 3 (by decide) (by decide)
    have q4 := q 4 (by decide) (by decide)
    have q5 := q 5 (by decide) (by decide)
    have q6 := q 6 (by decide) (by decide)
    have q7 := q 7 (by decide) (by decide)
    have q8 := q 8 (by decide) (by decide)
    have q9 := q 9 (by decide) (by decide)
    have q10 := q 10 (by decide) (by decide)
    have q11 := q 11 (by decide) (by decide)
    have q12 := q 12 (by decide) (by decide)
    have q13 := q 13 (by decide) (by decide)
    have q14 := q 14 (by decide) (by decide)
    have q15 := q 15 (by decide) (by decide)
    clear q hk
    go_enter Try.func48, Try.ntmps48
    go_wp2
    refine bodyPost_ret (st_results rfl _ rfl rfl (vs := [_, _]) (Blk.new _ _ _) agg_shape) rfl ?_
    exact ⟨rfl, (Keep.refl _ w).alloc _⟩
end Go.Proofs.Ytoepkhkaifgddaa

namespace Go.Proofs.Ytoepkhkaifgddaa
open Go.RowKit

theorem toList_eq {a b : ByteArray} (h : a.toList = b.toList) : a = b := by
  have := congrArg List.toArray h
  simp only [ByteArray.toList_eq] at this
  exact ByteArray.ext (by simpa using this)
/-- The kind of a word; 0: there is none. -/
def kindW (s : ByteArray) : Int := match (List.range 15).find? (fun (i : Nat) => decide ((shp ((i : Int) + 1)).1 = s)) with
  | some i => (i : Int) + 1
  | none => 0
theorem kindW_hit {s : ByteArray} {k : Nat} (hk : k < 15) (h : (shp ((k : Int) + 1)).1 = s) (ha : ∀ j : Nat, j < k → (shp ((j : Int) + 1)).1 ≠ s) : kindW s = (k : Int) + 1 := by
  unfold kindW
  rw [List.find?_range_eq_some.2 ⟨by simpa using h, by simpa using hk, fun j hj => by simpa using ha j hj⟩]
theorem kindW_none {s : ByteArray} (ha : ∀ j : Nat, j < 15 → (shp ((j : Int) + 1)).1 ≠ s) : kindW s = 0 := by
  unfold kindW
  rw [List.find?_range_eq_none.2 (fun j hj => by simpa using ha j hj)]

set_option maxRecDepth 100000 in
set_option maxHeartbeats 1000000 in
theorem kindOf_any (s : ByteArray) (w : World) :
    Calls Try.prog 47 #[.string s] w fun e w' => e = .returned (.int .i64 (kindW s)) ∧ Keep [] w w' := by
  go_enter Try.func47, Try.ntmps47
  go_wp2
  go_loopg [3] 15 (fun gk i wr => ∃ k : Nat, k + gk = 15 ∧ i = .int .i64 ((k : Int) + 1) ∧ (∀ j : Nat, j < k → (shp ((j : Int) + 1)).1 ≠ s) ∧ Keep [] w wr)
  case atStart => exact ⟨0, rfl, rfl, fun j hj => absurd hj (by omega), Keep.refl _ _⟩
  case round =>
    obtain ⟨k, hk, rfl, hall, hkeep⟩ := hrel
    have HK := Lib.hid hk
    have hk9 : k ≤ 15 := by omega
    clear hk
    have HKp := Lib.hid hkeep
    by_cases hlk : k < 15
    · have q1 : (k : Int) + 1 ≤ 15 := by omega
      have hh := Lib.hid (fun e => kindW_hit hlk e hall)
      have hn : Hid ((shp ((k : Int) + 1)).1 ≠ s → ∀ j : Nat, j < k + 1 → (shp ((j : Int) + 1)).1 ≠ s) := fun e j hj => by
        by_cases hjk : j = k
        · rw [hjk]; exact e
        · exact hall j (by omega)
      have HC := fun W => Lib.hid (shapeOf_any ((k : Int) + 1) W)
      clear hall hkeep
      generalize shp ((k : Int) + 1) = p at *
      generalize isKind ((k : Int) + 1) = b at *
      obtain ⟨p1, p2⟩ := p
      simp only at hh hn HC
      go_wp2_with fail
      refine (HC _).out.mono ?_
      rintro e w1 ⟨rfl, k1⟩
      have K1 := Lib.hid (HKp.out.then k1)
      clear HC
      by_cases he : p1 = s
      · have HR := Lib.hid (hh.out he)
        have q2 : (p1.toList == s.toList) = true := by rw [he]; exact beq_self_eq_true _
        clear hh hn he k1
        go_wp2
        go_ret
        exact ⟨by rw [HR.out]; rfl, K1.out.alloc _⟩
      · have HR := Lib.hid (hn.out he)
        have q2 : (p1.toList == s.toList) = false := by rw [beq_eq_false_iff_ne]; exact fun e => he (toList_eq e)
        clear hh hn he k1
        go_wp2
        go_roundg (gk - 1)
        case rel => exact ⟨k + 1, by have := HK.out; omega, by go_num, HR.out, K1.out.alloc _⟩
        case measure => have := HK.out; omega
    · have q1 : ¬ (k : Int) + 1 ≤ 15 := by omega
      have HR := Lib.hid (kindW_none (fun j hj => hall j (by omega)))
      clear hall hkeep
      go_wp2
      go_ret
      exact ⟨by rw [HR.out]; rfl, HKp.out⟩
end Go.Proofs.Ytoepkhkaifgddaa

namespace Go.Proofs.Ytoepkhkaifgddaa
open Go.RowKit

set_option maxRecDepth 100000 in
theorem slIdx_any (s : ByteArray) (c : Int) (w : World) :
    Calls Try.prog 92 #[.string s, .int .u8 c] w fun e w' => e = .returned (.int .i64 (Lib.indexByte s.data.toList c.toNat.toUInt8)) ∧ w = w' := by
  go_enter Try.func92, Try.ntmps92
  go_wp2
  rw [run_callFunc_extern Try.func94 (by kernel_rfl) (by kernel_rfl) (by kernel_rfl) (e := Extern.BytealgIndexByte.indexByte) (by kernel_rfl), Lib.run_indexByteString]
  simp only [Result.andThen]
  rw [Oper.upon_value]
  go_wp2
  go_ret
  exact ⟨rfl, rfl⟩
set_option maxRecDepth 100000 in
theorem sIdx_any (s : ByteArray) (c : Int) (w : World) :
    Calls Try.prog 85 #[.string s, .int .u8 c] w fun e w' => e = .returned (.int .i64 (Lib.indexByte s.data.toList c.toNat.toUInt8)) ∧ w = w' := by
  go_enter Try.func85, Try.ntmps85
  go_wp2_with fail
  refine (slIdx_any s c w).mono ?_
  rintro e w' ⟨rfl, rfl⟩
  go_wp2
  go_ret
  exact ⟨rfl, rfl⟩
/-- Where a byte lies first; -1: nowhere. -/
abbrev idxB (s : ByteArray) (c : Int) : Int := Lib.indexByte s.data.toList c.toNat.toUInt8
theorem idxB_lt (s : ByteArray) (c : Int) : idxB s c < s.size := by
  have : ∀ (l : List UInt8) (c : UInt8), Lib.indexByte l c < l.length + (if l = [] then 1 else 0) ∧ Lib.indexByte l c < l.length ∨ l = [] := by
    intro l c
    induction l with
    | nil => exact .inr rfl
    | cons b l ih =>
      left
      have h2 : Lib.indexByte (b :: l) c < (b :: l).length := by
        rw [Lib.indexByte]
        rcases ih with ih | rfl
        · split
          · simp
          · split
            · simp; omega
            · simp; omega
        · simp [Lib.indexByte]; split <;> simp
      exact ⟨by simpa using h2, h2⟩
  rcases this s.data.toList c.toNat.toUInt8 with h | h
  · have := h.2; simpa using this
  · unfold idxB; rw [h]; simp [Lib.indexByte]; omega
set_option maxRecDepth 100000 in
theorem has_any' (a p : ByteArray) (c : Int) (w : World) :
    Calls Try.prog 50 #[.agg #[.string a, .string p], .int .u8 c] w fun e w' => e = .returned (.bool (decide (0 ≤ idxB p c))) ∧ Keep [] w w' := by
  go_enter Try.func50, Try.ntmps50
  go_wp2_with fail
  refine (sIdx_any p c _).mono ?_
  rintro e w' ⟨rfl, rfl⟩
  go_wp2
  go_ret
  exact ⟨rfl, (Keep.refl _ w).alloc _⟩
/-- A piece parted at the first such byte; false: there is none. -/
def splitB (s : ByteArray) (c : Int) : ByteArray × ByteArray × Bool :=
  if 0 ≤ idxB s c then (s.extract 0 (idxB s c).toNat, s.extract ((idxB s c).toNat + 1) s.size, true) else ({ data := #[] }, { data := #[] }, false)
set_option maxRecDepth 100000 in
theorem split_any (s : ByteArray) (c : Int) (w : World) (hs : s.size ≤ 1000000) :
    Calls Try.prog 91 #[.string s, .int .u8 c] w fun e w' => e = .returned (.tuple #[.string (splitB s c).1, .string (splitB s c).2.1, .bool (splitB s c).2.2]) ∧ Keep [] w w' := by
  have hlt := idxB_lt s c
  by_cases h : 0 ≤ idxB s c
  · obtain ⟨n, hn⟩ : ∃ n : Nat, idxB s c = n := ⟨(idxB s c).toNat, by omega⟩
    have HC := Lib.hid (sIdx_any s c w)
    have hsp : splitB s c = (s.extract 0 n, s.extract (n + 1) s.size, true) := by unfold splitB; rw [if_pos h, hn]; rfl
    rw [hsp]
    have HC2 : Hid (Calls Try.prog 85 #[.string s, .int .u8 c] w fun e w' => e = .returned (.int .i64 (n : Int)) ∧ w = w') := by rw [← hn]; exact HC
    rw [hn] at hlt
    have q1 : ¬ ((n : Int) < 0) := by omega
    have q2 : (n : Int) + 1 ≤ s.size := by omega
    have q3 : (n : Int) ≤ s.size := by omega
    have q4 : (0 : Int) ≤ (n : Int) := by omega
    clear h hn hsp HC
    go_enter Try.func91, Try.ntmps91
    go_wp2_with fail
    refine HC2.out.mono ?_
    rintro e w' ⟨rfl, rfl⟩
    go_wp2
    go_region
    go_wp2
    go_ret3
    exact ⟨rfl, (Keep.refl _ _).drew⟩
  · have HC := Lib.hid (sIdx_any s c w)
    have hsp : splitB s c = ({ data := #[] }, { data := #[] }, false) := by unfold splitB; rw [if_neg h]
    rw [hsp]
    obtain ⟨n, hn⟩ : ∃ n : Int, idxB s c = n := ⟨_, rfl⟩
    have HC2 : Hid (Calls Try.prog 85 #[.string s, .int .u8 c] w fun e w' => e = .returned (.int .i64 n) ∧ w = w') := by rw [← hn]; exact HC
    rw [hn] at h
    have q1 : n < 0 := by omega
    clear h hsp hlt hn HC
    go_enter Try.func91, Try.ntmps91
    go_wp2_with fail
    refine HC2.out.mono ?_
    rintro e w' ⟨rfl, rfl⟩
    go_wp2
    go_ret3
    exact ⟨rfl, Keep.refl _ _⟩
end Go.Proofs.Ytoepkhkaifgddaa
