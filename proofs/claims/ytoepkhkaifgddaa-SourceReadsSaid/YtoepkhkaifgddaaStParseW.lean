/- The steps of a text: what the program's Parse computes, in plain Lean. No condition. script.Parse: the steps of a text; walked. Condition: the text is no longer than a million bytes. The chapter's example of the scripts' laws: the answer is yes; walked. No condition. -/
import Derived.Test.YtoepkhkaifgddaaStReadW
import Derived.Test.YtoepkhkaifgddaaDigLns
namespace Go.Proofs.Ytoepkhkaifgddaa
open Go.RowKit

/-- One line more; Except.error n: line n is none's, or there are too many steps. -/
def psStep (acc : List Stp) (x : NumStr) : Except Int (List Stp) :=
  if piecesOf x.2 = [] then .ok acc
  else if (readS x.2).2 = true ∧ acc.length ≠ 512 then .ok (acc ++ [(readS x.2).1])
  else .error x.1
def psFold (acc : List Stp) : List NumStr → Except Int (List Stp)
  | [] => .ok acc
  | x :: l => (psStep acc x).bind (fun a => psFold a l)
/-- The steps of a text, a line, and a number of an error. -/
def parseS (text : ByteArray) : List Stp × Int × Int :=
  if 65536 < text.size then ([], 0, 340)
  else match psFold [] (number 1 (linesT text)) with
    | .ok l => (l, 0, 0)
    | .error n => ([], n, 340)
theorem psFold_append : ∀ (l m : List NumStr) (acc : List Stp), psFold acc (l ++ m) = (psFold acc l).bind (fun a => psFold a m)
  | [], _, _ => rfl
  | x :: l, m, acc => by
    rw [List.cons_append, psFold, psFold]
    cases psStep acc x with
    | error n => rfl
    | ok a => exact psFold_append l m a
theorem psFold_snoc (l : List NumStr) (x : NumStr) (acc : List Stp) : psFold acc (l ++ [x]) = (psFold acc l).bind (fun a => psStep a x) := by
  rw [psFold_append]
  congr 1
  funext a
  show (psStep a x).bind _ = _
  cases psStep a x <;> rfl
theorem psFold_prefix {l m : List NumStr} {acc : List Stp} {n : Int} (h : l <+: m) (hl : psFold acc l = .error n) : psFold acc m = .error n := by
  obtain ⟨r, rfl⟩ := h
  rw [psFold_append, hl]; rfl
theorem psStep_len {acc l : List Stp} {x : NumStr} (ha : acc.length ≤ 512) (h : psStep acc x = .ok l) : l.length ≤ 512 := by
  unfold psStep at h
  split at h
  · cases h; exact ha
  · split at h
    · rename_i hc
      cases h
      rw [List.length_append]
      have := hc.2
      simp
      omega
    · cases h
/-- Every step that is read holds words below 2^32, and no more of them than the line has pieces. -/
def WordsOk (s : Stp) : Prop := ∀ k ∈ s.words, k < 4294967296
theorem partP_wordsOk {s : Stp} (h : WordsOk s) (c : Int) (p : ByteArray) : WordsOk (partP s c p).1 := by
  unfold partP
  split
  · exact h
  · split
    · exact h
    · split
      · exact h
      · split
        · exact h
        · intro k hk
          rcases List.mem_append.1 hk with hk | hk
          · exact h k hk
          · simp at hk
            subst hk
            exact readWP_lt _
theorem rdStep_wordsOk {st st' : RdS} {x : NumStr} (h : WordsOk st.s) (he : rdStep st x = some st') : WordsOk st'.s := by
  unfold rdStep at he
  split at he
  · split at he
    · cases he
    · cases he; exact h
  · split at he
    · cases he
    · split at he
      · cases he
      · split at he
        · cases he; exact partP_wordsOk h _ _
        · cases he
theorem rdFold_ok : ∀ (l : List NumStr) (st st' : RdS) (n : Nat), RdOk st n → WordsOk st.s → rdFold st l = some st' → RdOk st' (n + l.length) ∧ WordsOk st'.s
  | [], st, st', n, h, hw, he => by cases he; exact ⟨h, hw⟩
  | x :: l, st, st', n, h, hw, he => by
    rw [rdFold] at he
    obtain ⟨s2, h1, h2⟩ := Option.bind_eq_some_iff.1 he
    have := rdFold_ok l s2 st' (n + 1) (rdStep_ok h h1) (rdStep_wordsOk hw h1) h2
    rw [List.length_cons, show n + (l.length + 1) = n + 1 + l.length by omega]
    exact this
theorem readS_ok (s : ByteArray) : (readS s).1.secs.length ≤ s.size + 1 ∧ (readS s).1.words.length ≤ s.size + 1 ∧ WordsOk (readS s).1 := by
  have hl := (scan_le s (s.size + 1)).1
  have h0 : WordsOk noStp := by intro k hk; cases hk
  unfold readS
  split
  · rename_i st he
    obtain ⟨h1, h2⟩ := rdFold_ok _ _ _ 0 rd0_ok h0 he
    rw [number_length] at h1
    have h3 : (piecesOf s).length ≤ s.size + 1 := hl
    unfold rdDone
    split
    · exact ⟨Nat.zero_le _, Nat.zero_le _, h0⟩
    · exact ⟨show st.s.secs.length ≤ s.size + 1 by have := h1.secs; omega, show st.s.words.length ≤ s.size + 1 by have := h1.words; omega, h2⟩
  · exact ⟨Nat.zero_le _, Nat.zero_le _, h0⟩
/-- A step in memory whose slices are rows of their own, from block b on. -/
structure OStp (W : World) (b : Nat) (m : Stp × StpV) : Prop where
  secs : W.ownsRow b 85 3 (.slice m.2.sa m.1.secs.length m.2.sc) m.1.secs.length (m.1.secs.flatMap sctCells)
  words : W.ownsRow b 77 1 (.slice m.2.wa m.1.words.length m.2.wc) m.1.words.length (u32s m.1.words)
  ok : WordsOk m.1
  lens : m.1.secs.length ≤ maxLen ∧ m.1.words.length ≤ maxLen
theorem OStp.keep {F : List Nat} {W W' : World} {b : Nat} {m : Stp × StpV} (h : OStp W b m) (k : Keep F W W') (hs : ∀ g, (Value.slice m.2.sa m.1.secs.length m.2.sc).ownBlock = some g → g ∉ F) (hw : ∀ g, (Value.slice m.2.wa m.1.words.length m.2.wc).ownBlock = some g → g ∉ F) : OStp W' b m :=
  ⟨own_keep h.secs k hs, own_keep h.words k hw, h.ok, h.lens⟩
theorem OStp.keep0 {W W' : World} {b : Nat} {m : Stp × StpV} (h : OStp W b m) (k : Keep [] W W') : OStp W' b m := h.keep k (by simp) (by simp)
theorem OStp.base {W : World} {b b' : Nat} {m : Stp × StpV} (h : OStp W b m) (hb : b' ≤ b) : OStp W b' m := ⟨own_base h.secs hb, own_base h.words hb, h.ok, h.lens⟩
theorem OStp.at_ {W : World} {b : Nat} {m : Stp × StpV} (h : OStp W b m) : StepAt W m.2 m.1 := ⟨Reads.of_own h.secs, Reads.of_own h.words, h.ok, h.lens.1, h.lens.2⟩
/-- A row of steps, its own, from block b on. -/
structure OwnSteps (W : World) (b : Nat) (v : Value) (ms : List (Stp × StpV)) : Prop where
  row : W.ownsRow b 45 5 v ms.length (ms.flatMap stpCells)
  each : ∀ m ∈ ms, OStp W b m
theorem OwnSteps.nil (W : World) (b : Nat) : OwnSteps W b (.slice none 0 0) [] := ⟨World.ownsRow_nil _ _ _ _, fun m hm => by cases hm⟩
theorem OwnSteps.keep {F : List Nat} {W W' : World} {b : Nat} {v : Value} {ms : List (Stp × StpV)} (h : OwnSteps W b v ms) (k : Keep F W W') (hv : ∀ g, v.ownBlock = some g → g ∉ F)
    (hs : ∀ m ∈ ms, ∀ g, (Value.slice m.2.sa m.1.secs.length m.2.sc).ownBlock = some g → g ∉ F) (hw : ∀ m ∈ ms, ∀ g, (Value.slice m.2.wa m.1.words.length m.2.wc).ownBlock = some g → g ∉ F) : OwnSteps W' b v ms :=
  ⟨own_keep h.row k hv, fun m hm => (h.each m hm).keep k (hs m hm) (hw m hm)⟩
theorem OwnSteps.keep0 {W W' : World} {b : Nat} {v : Value} {ms : List (Stp × StpV)} (h : OwnSteps W b v ms) (k : Keep [] W W') : OwnSteps W' b v ms := h.keep k (by simp) (by simp) (by simp)
/-- A change of blocks of other types only. -/
theorem OwnSteps.other {F : List Nat} {W W' : World} {b : Nat} {v : Value} {ms : List (Stp × StpV)} (h : OwnSteps W b v ms) (k : Keep F W W') (hF : ∀ g, g ∈ F → ∃ cs t fr, W.heap[g]? = some (.cells cs t fr) ∧ t ≠ 45 ∧ t ≠ 85 ∧ t ≠ 77) : OwnSteps W' b v ms := by
  refine h.keep k (fun g hg hm => ?_) (fun m hm g hg hm2 => ?_) (fun m hm g hg hm2 => ?_)
  · obtain ⟨cs, t, fr, h1, h2, h3, h4⟩ := hF g hm
    exact unown_ne h.row h1 (Ne.symm h2) hg
  · obtain ⟨cs, t, fr, h1, h2, h3, h4⟩ := hF g hm2
    exact unown_ne (h.each m hm).secs h1 (Ne.symm h3) hg
  · obtain ⟨cs, t, fr, h1, h2, h3, h4⟩ := hF g hm2
    exact unown_ne (h.each m hm).words h1 (Ne.symm h4) hg
/-- A step is appended. -/
theorem OwnSteps.app {W W' : World} {b : Nat} {v v' : Value} {ms : List (Stp × StpV)} {m : Stp × StpV} (h : OwnSteps W b v ms) (hm : OStp W b m) (k : Keep v.ownBlock.toList W W') (hr : W'.ownsRow b 45 5 v' (ms.length + 1) (ms.flatMap stpCells ++ stpCells m)) : OwnSteps W' b v' (ms ++ [m]) := by
  have key : ∀ y, OStp W b y → OStp W' b y := fun y hy => hy.keep k (row_apart h.row hy.secs (by decide)) (row_apart h.row hy.words (by decide))
  refine ⟨by simpa using hr, fun y hy => ?_⟩
  rcases List.mem_append.1 hy with hy | hy
  · exact key y (h.each y hy)
  · simp at hy
    subst hy
    exact key _ hm
theorem OwnSteps.base {W : World} {b b' : Nat} {v : Value} {ms : List (Stp × StpV)} (h : OwnSteps W b v ms) (hb : b' ≤ b) : OwnSteps W b' v ms := ⟨own_base h.row hb, fun m hm => (h.each m hm).base hb⟩
theorem OwnSteps.at_ {W : World} {b : Nat} {A : Option Addr} {n c : Nat} {ms : List (Stp × StpV)} (h : OwnSteps W b (.slice A n c) ms) (hl : ms.length ≤ maxLen) : n = ms.length ∧ StepsAt W A ms := by
  obtain ⟨A', c', e⟩ := own_shape h.row
  cases e
  exact ⟨rfl, Reads.of_own h.row, fun m hm => (h.each m hm).at_, hl⟩
theorem slice_stp : SliceOf Try.prog 35 45 5 72 := ⟨Try.underlying35, by kernel_rfl, by decide⟩
end Go.Proofs.Ytoepkhkaifgddaa

namespace Go.Proofs.Ytoepkhkaifgddaa
open Go.RowKit
attribute [local go_sem] Oper.semAt_some

theorem linesK_size (s : ByteArray) : ∀ n a p, p ∈ linesK s n a → p.size ≤ s.size
  | 0, _, _, h => by cases h
  | n + 1, a, p, h => by
    rw [linesK] at h
    split at h
    · rcases List.mem_cons.1 h with rfl | h
      · rw [ByteArray.size_extract]; omega
      · exact linesK_size s n _ p h
    · cases h
theorem line_size {s : ByteArray} {pre : List NumStr} {x : NumStr} (h : pre ++ [x] <+: number 1 (linesT s)) : x.2.size ≤ s.size := by
  have h1 : x.2 ∈ linesT s := by
    rw [← number_snd (linesT s) 1]
    exact List.mem_map.2 ⟨x, h.subset (by simp), rfl⟩
  have h2 := linesS_eq s s.size 0
  rw [ByteArray.extract_zero_size] at h2
  unfold linesT at h1
  rw [h2] at h1
  exact linesK_size s _ _ _ h1
theorem psStep_nil {acc : List Stp} {x : NumStr} (h : piecesOf x.2 = []) : psStep acc x = .ok acc := if_pos h
theorem psStep_bad {acc : List Stp} {x : NumStr} (h : piecesOf x.2 ≠ []) (h2 : (readS x.2).2 = false ∨ acc.length = 512) : psStep acc x = .error x.1 := by
  unfold psStep
  rw [if_neg h, if_neg (by rintro ⟨h3, h4⟩; rcases h2 with h2 | h2; rw [h2] at h3; cases h3; exact h4 h2)]
theorem psStep_good {acc : List Stp} {x : NumStr} (h : piecesOf x.2 ≠ []) (h2 : (readS x.2).2 = true) (h3 : acc.length ≠ 512) : psStep acc x = .ok (acc ++ [(readS x.2).1]) := by
  unfold psStep
  rw [if_neg h, if_pos ⟨h2, h3⟩]
structure PsAt (w W0 : World) (acc : List Stp) (W : World) (ms : List (Stp × StpV)) (v : Value) : Prop where
  acc : acc = ms.map (·.1)
  own : OwnSteps W (w.heap.size + 5) v ms
  out : Blk W (w.heap.size + 3) 35 #[v]
  res : Blk W w.heap.size 35 #[.slice none 0 0]
  at_ : Blk W (w.heap.size + 1) 3 #[.int .i64 0]
  err : Blk W (w.heap.size + 2) 27 #[.int .i64 0]
  keep : Keep [w.heap.size + 3, w.heap.size + 4] W0 W
theorem PsAt.keep0 {w W0 W W' : World} {acc : List Stp} {ms : List (Stp × StpV)} {v : Value} (h : PsAt w W0 acc W ms v) (k : Keep [] W W') : PsAt w W0 acc W' ms v := ⟨h.acc, h.own.keep0 k, h.out.keep0 k, h.res.keep0 k, h.at_.keep0 k, h.err.keep0 k, h.keep.then k⟩
def PsInv (w W0 : World) (pre : List NumStr) (W : World) : Prop := ∃ acc ms v, psFold [] pre = .ok acc ∧ acc.length ≤ 512 ∧ PsAt w W0 acc W ms v
structure PsX (w W0 W : World) (pre : List NumStr) (n : Int) : Prop where
  err_ : psFold [] pre = .error n
  res : Blk W w.heap.size 35 #[.slice none 0 0]
  at_ : Blk W (w.heap.size + 1) 3 #[.int .i64 n]
  err : Blk W (w.heap.size + 2) 27 #[.int .i64 340]
  keep : Keep [] w W
def ParsePost (w : World) (r : List Stp × Int × Int) (e : Ending) (w' : World) : Prop :=
  ∃ A c ms, r.1 = ms.map (·.1) ∧ e = .returned (.tuple #[.slice A ms.length c, .int .i64 r.2.1, .int .i64 r.2.2]) ∧ OwnSteps w' w.heap.size (.slice A ms.length c) ms ∧ Keep [] w w'

set_option maxRecDepth 100000 in
set_option maxHeartbeats 16000000 in
theorem sparse_any (s : ByteArray) (w : World) (hs : s.size ≤ 1000000) :
    Calls Try.prog 29 #[.string s] w (ParsePost w (parseS s)) := by
  rw [← callsIn_wide (n := 9)]
  refine callsIn_of_wp_marks Try.func29 rfl trivial ?_ rfl
  simp only [Try.ntmps29, List.size_toArray, List.length_cons, List.length_nil, Nat.reduceAdd, Nat.reduceSub, Array.replicate_succ, Array.replicate_zero, List.push_toArray, List.append_toArray, List.nil_append, List.cons_append]
  by_cases hbig : 65536 < s.size
  · have hb1 : decide ((65536 : Int) < (s.size : Int)) = true := decide_eq_true (by omega)
    have hP : Hid (parseS s = ([], 0, 340)) := if_pos hbig
    gi_wp2
    have b0 : Blk (((w.alloc (.cells #[.slice none 0 0] 35)).alloc (.cells #[.int .i64 0] 3)).alloc (.cells #[.int .i64 340] 27)) w.heap.size 35 #[.slice none 0 0] := ((Blk.new _ _ _).alloc _).alloc _
    have b1 : Blk (((w.alloc (.cells #[.slice none 0 0] 35)).alloc (.cells #[.int .i64 0] 3)).alloc (.cells #[.int .i64 340] 27)) (w.heap.size + 1) 3 #[.int .i64 0] := by
      have := Blk.new (w.alloc (.cells #[.slice none 0 0] 35)) 3 #[.int .i64 0]; rw [World.size_alloc] at this; exact this.alloc _
    have b2 : Blk (((w.alloc (.cells #[.slice none 0 0] 35)).alloc (.cells #[.int .i64 0] 3)).alloc (.cells #[.int .i64 340] 27)) (w.heap.size + 2) 27 #[.int .i64 340] := by
      have := Blk.new ((w.alloc (.cells #[.slice none 0 0] 35)).alloc (.cells #[.int .i64 0] 3)) 27 #[.int .i64 340]; rw [World.size_alloc, World.size_alloc] at this; exact this
    have c0 := b0.cell 0
    have c1 := b1.cell 0
    have c2 := b2.cell 0
    simp at c0 c1 c2
    refine ⟨.tuple #[.slice none 0 0, .int .i64 0, .int .i64 340], by simp [results, Try.results29, go_sem, c0, c1, c2], ?_⟩
    rw [hP.out]
    exact ⟨none, 0, [], rfl, rfl, OwnSteps.nil _ _, (((Keep.refl [] w).alloc _).alloc _).alloc _⟩
  · have hb1 : decide ((65536 : Int) < (s.size : Int)) = false := decide_eq_false (by omega)
    gi_wp2_with (refine ⟨trivial, ?_⟩; gi_at_call 31; refine (callsIn_wide.2 (lines_any s _)).mono ?_; rintro e w' ⟨rfl, rfl⟩)
    obtain ⟨W0, hW0⟩ : ∃ W0, ((((w.alloc (.cells #[.slice none 0 0] 35)).alloc (.cells #[.int .i64 0] 3)).alloc (.cells #[.int .i64 0] 27)).alloc (.cells #[.slice none 0 0] 35)).alloc (.cells #[.string s] 9) = W0 := ⟨_, rfl⟩
    have hsz : W0.heap.size = w.heap.size + 5 := by rw [← hW0]; simp
    have b0 : Blk W0 w.heap.size 35 #[.slice none 0 0] := by rw [← hW0]; exact ((((Blk.new _ _ _).alloc _).alloc _).alloc _).alloc _
    have b1 : Blk W0 (w.heap.size + 1) 3 #[.int .i64 0] := by
      rw [← hW0]; have := Blk.new (w.alloc (.cells #[.slice none 0 0] 35)) 3 #[.int .i64 0]; rw [World.size_alloc] at this; exact ((this.alloc _).alloc _).alloc _
    have b2 : Blk W0 (w.heap.size + 2) 27 #[.int .i64 0] := by
      rw [← hW0]; have := Blk.new ((w.alloc (.cells #[.slice none 0 0] 35)).alloc (.cells #[.int .i64 0] 3)) 27 #[.int .i64 0]; rw [World.size_alloc, World.size_alloc] at this; exact (this.alloc _).alloc _
    have b3 : Blk W0 (w.heap.size + 3) 35 #[.slice none 0 0] := by
      rw [← hW0]; have := Blk.new (((w.alloc (.cells #[.slice none 0 0] 35)).alloc (.cells #[.int .i64 0] 3)).alloc (.cells #[.int .i64 0] 27)) 35 #[.slice none 0 0]; rw [World.size_alloc, World.size_alloc, World.size_alloc] at this; exact this.alloc _
    have b4 : Blk W0 (w.heap.size + 4) 9 #[.string s] := by
      rw [← hW0]; have := Blk.new ((((w.alloc (.cells #[.slice none 0 0] 35)).alloc (.cells #[.int .i64 0] 3)).alloc (.cells #[.int .i64 0] 27)).alloc (.cells #[.slice none 0 0] 35)) 9 #[.string s]; rw [World.size_alloc, World.size_alloc, World.size_alloc, World.size_alloc] at this; exact this
    have K0 : Keep [] w W0 := by rw [← hW0]; exact (((((Keep.refl _ w).alloc _).alloc _).alloc _).alloc _).alloc _
    simp only [Nat.add_assoc, Nat.reduceAdd]
    simp only [hW0]
    clear hW0 hb1
    have hlen : (linesT s).length ≤ s.size + 1 := linesT_len s
    have hP0 : Hid (parseS s = match psFold [] (number 1 (linesT s)) with | .ok l => (l, 0, 0) | .error n => ([], n, 340)) := if_neg hbig
    refine wpIn_rangeTL (F := Fence.wide) (n := 9) (Lo := fun r _ => r = w.heap.size + 4) (ps := #[16, 17]) rfl (by omega) (gf := 65) (lb := #[.pointer (some ⟨w.heap.size + 4, 0, none⟩)]) rfl trivial (enters_of Try.func65 (by kernel_rfl) rfl)
      (lines1_seq _ s (w.heap.size + 4) W0 (by omega) b4 hs) Same.trans (fun W _ o' _ _ => fun k hk => World.putObj_heap_other (by simp at hk; omega)) (Below.refl _ _) (fun _ => rfl)
      (PsInv w W0) (fun c pre W => c = .ret ∧ ∃ n, PsX w W0 W pre n)
      ?hI ?hIx ⟨[], [], _, rfl, by decide, rfl, OwnSteps.nil _ _, b3, b0, b1, b2, Keep.refl _ _⟩
      (fun x => { tmps := #[.string s, undef, .pointer (some ⟨w.heap.size, 0, none⟩), .pointer (some ⟨w.heap.size + 1, 0, none⟩), .pointer (some ⟨w.heap.size + 2, 0, none⟩), .pointer (some ⟨w.heap.size + 3, 0, none⟩), .int .i64 x.1, .string x.2, undef, undef, undef, .string s, .int .i64 (s.size : Int), .bool false, .string s, .func (.func 65) #[] #[.pointer (some ⟨w.heap.size + 4, 0, none⟩)], .int .i64 x.1, .string x.2, undef, undef, undef, undef, undef, undef, undef, undef, undef, undef, undef, undef, undef, undef, undef, undef, undef, undef, undef, undef, undef, undef, undef], defers := [] }) ?assign ?body ?done ?stop
    case hI =>
      rintro pre X Y row ⟨acc, ms, v, h0, h1, h2⟩ hg hr
      have hne : ∀ g t cs, Blk X g t cs → g ≠ w.heap.size + 4 → Blk Y g t cs := fun g t cs hb hgn => by
        refine (hg.block g hb.lt (fun e => ?_)).trans hb
        obtain ⟨o, ho, ⟨_, hc⟩ | ⟨_, hc⟩⟩ := hr g e.symm
        · rw [show X.heap[g]? = _ from hb] at ho; cases ho; cases hc
        · exact hgn hc
      have hgb : ∀ gb, gb ∈ row.toList → w.heap.size + 5 ≤ gb → ∀ cs t fr, X.heap[gb]? = some (.cells cs t fr) → False := fun gb hx hbb cs t fr hh => by
        obtain ⟨o, ho, ⟨_, hc⟩ | ⟨_, hc⟩⟩ := hr gb (by simpa using hx)
        · rw [hh] at ho; cases ho; cases hc
        · have hc' : gb = w.heap.size + 4 := hc
          omega
      have own : ∀ {e size n : Nat} {v : Value} {xs : List Value}, X.ownsRow (w.heap.size + 5) e size v n xs → ∀ g, v.ownBlock = some g → g ∉ row.toList := fun hrow g hg' hx => by
        obtain ⟨cs, fr, hh⟩ := row_typed hrow g (by simp [hg'])
        exact hgb g hx (row_base hrow g (by simp [hg'])) cs _ fr hh
      refine ⟨acc, ms, v, h0, h1, h2.acc, h2.own.keep (Keep.of_grown hg) (own h2.own.row) (fun m hm => own (h2.own.each m hm).secs) (fun m hm => own (h2.own.each m hm).words), hne _ _ _ h2.out (by omega), hne _ _ _ h2.res (by omega), hne _ _ _ h2.at_ (by omega), hne _ _ _ h2.err (by omega), h2.keep.trans (Keep.of_grown hg) (fun y hy hlt => ?_)⟩
      obtain ⟨o, ho, ⟨hc, _⟩ | ⟨_, hc⟩⟩ := hr y (by simpa using hy)
      · omega
      · have hc' : y = w.heap.size + 4 := hc
        simp [hc']
    case hIx =>
      rintro c pre X Y row ⟨rfl, n, h⟩ hg hr
      have hne : ∀ g t cs, Blk X g t cs → g ≠ w.heap.size + 4 → Blk Y g t cs := fun g t cs hb hgn => by
        refine (hg.block g hb.lt (fun e => ?_)).trans hb
        obtain ⟨o, ho, ⟨_, hc⟩ | ⟨_, hc⟩⟩ := hr g e.symm
        · rw [show X.heap[g]? = _ from hb] at ho; cases ho; cases hc
        · exact hgn hc
      refine ⟨rfl, n, h.err_, hne _ _ _ h.res (by omega), hne _ _ _ h.at_ (by omega), hne _ _ _ h.err (by omega), h.keep.trans (Keep.of_grown hg) (fun y hy hlt => ?_)⟩
      obtain ⟨o, ho, ⟨hc, _⟩ | ⟨_, hc⟩⟩ := hr y (by simpa using hy)
      · omega
      · have hc' : y = w.heap.size + 4 := hc
        omega
    case assign =>
      intro l x W K hK
      simp only [encNS]
      gi_wp2
      exact hK
    case body =>
      rintro l pre x W hl ⟨rl, hrl⟩ ⟨acc, ms, v, h0, h1, h2⟩ hpre
      have hx2 := line_size hpre
      have HX : Hid (psFold [] (pre ++ [x]) = psStep acc x) := by show _ = _; rw [psFold_snoc, h0]; rfl
      obtain ⟨xi, xp⟩ := x
      dsimp only at hx2
      clear h0 hpre
      have hzW : W0.heap.size ≤ W.heap.size := h2.keep.size
      have HA := Lib.hid h2
      clear h2
      gi_wp2_with (refine ⟨trivial, ?_⟩; gi_at_call 32; refine ((callsIn_wide.2 (pieces_any xp _)).inRound l).mono ?_; rintro e w' ⟨rfl, rfl⟩)
      obtain ⟨V1, hV1⟩ : ∃ V1, (W.alloc (.cells #[.bool true] 4)).alloc (.cells #[.string xp] 9) = V1 := ⟨_, rfl⟩
      have kV1 : Keep [] W V1 := by rw [← hV1]; exact ((Keep.refl _ W).alloc _).alloc _
      have bE : Blk V1 W.heap.size 4 #[.bool true] := by rw [← hV1]; exact (Blk.new _ _ _).alloc _
      have bS : Blk V1 (W.heap.size + 1) 9 #[.string xp] := by
        rw [← hV1]; have := Blk.new (W.alloc (.cells #[.bool true] 4)) 9 #[.string xp]; rw [World.size_alloc] at this; exact this
      have szV1 : V1.heap.size = W.heap.size + 2 := by rw [← hV1]; simp
      have hr' : V1.heap[l]? = some (.loop rl) := (kV1.block l (Array.getElem?_eq_some_iff.1 hrl).1 (by simp)).trans hrl
      simp only [hV1]
      clear hV1
      refine wpIn_rangeFunc_ownN (l₀ := l) (r₀ := rl) rfl hr' (by omega) (gf := 66) (lb := #[.pointer (some ⟨W.heap.size + 1, 0, none⟩)]) rfl trivial (enters_of Try.func66 (by kernel_rfl) rfl)
        ((pieces1_stops 6 xp (W.heap.size + 1) V1 (by omega) (bS.cell 0) (by omega)).inRound l) Same.trans (Same.turn (by simp; omega)) (Below.refl _ _) (fun _ => rfl)
        (fun pre' W' => pre' = [] ∧ Blk W' W.heap.size 4 #[.bool true] ∧ Keep [W.heap.size] V1 W')
        (fun c pre' W' => c = .exit 2 ∧ pre' ≠ [] ∧ Blk W' W.heap.size 4 #[.bool false] ∧ Keep [W.heap.size] V1 W')
        ?hI2 ?hIx2 ⟨rfl, bE, Keep.refl _ _⟩
        (fun y a'' _ => a'' = { tmps := #[.string s, undef, .pointer (some ⟨w.heap.size, 0, none⟩), .pointer (some ⟨w.heap.size + 1, 0, none⟩), .pointer (some ⟨w.heap.size + 2, 0, none⟩), .pointer (some ⟨w.heap.size + 3, 0, none⟩), .int .i64 xi, .string xp, .pointer (some ⟨W.heap.size, 0, none⟩), undef, undef, .string s, .int .i64 (s.size : Int), .bool false, .string s, .func (.func 65) #[] #[.pointer (some ⟨w.heap.size + 4, 0, none⟩)], .int .i64 xi, .string xp, .string xp, .func (.func 66) #[] #[.pointer (some ⟨W.heap.size + 1, 0, none⟩)], .int .i64 y.1, .string y.2, undef, undef, undef, undef, undef, undef, undef, undef, undef, undef, undef, undef, undef, undef, undef, undef, undef, undef, undef], defers := [] })
        (fun _ _ _ _ _ _ hs _ _ => hs) ?assign2 ?body2 ?done2 ?stop2
      case hI2 =>
        intro pre' X Y row hs hg hr
        exact ⟨hs.1, blk_own (β := Unit) _ _ (fun _ => _) () X Y row hs.2.1 hg hr, keep_own (β := Unit) (Nat.le_refl _) () X Y row hs.2.2 hg hr⟩
      case hIx2 =>
        intro c pre' X Y row hs hg hr
        exact ⟨hs.1, hs.2.1, blk_own (β := Unit) _ _ (fun _ => _) () X Y row hs.2.2.1 hg hr, keep_own (β := Unit) (Nat.le_refl _) () X Y row hs.2.2.2 hg hr⟩
      case assign2 =>
        rintro l2 pre' y W' K hi2 hK2
        simp only [encNS]
        gi_wp2
        exact hK2 _ _ (KeepsFrom.refl _ _) (Same.refl _ _) hi2 rfl
      case body2 =>
        rintro l2 pre' y a'' W' _ _ ⟨rfl, hE, hK2⟩ rfl hlt2
        have ce := hE.cell 0
        have fe := hE.frozen 0
        simp at ce
        gi_wp2
        have kk := keep_set W' W.heap.size 0 (.bool false)
        exact ⟨kk.from (fun y hy => .inl (by simp at hy; omega)), rfl, by simp, hE.set_ 0 _, hK2.trans kk (fun y hy _ => hy)⟩
      case done2 =>
        rintro ys W2 rfl ⟨hp, hE, hK2⟩
        have ce := hE.cell 0
        simp at ce
        have hpn : piecesOf xp = [] := by
          have := congrArg List.length hp
          rw [number_length] at this
          exact List.length_eq_zero_iff.1 (by simpa using this)
        have kW : Keep [] W W2 := kV1.trans hK2 (fun y hy hlt => by simp at hy; omega)
        clear hp
        gi_wp2
        refine ⟨kW.from0, Same.keep kW (fun y hy => ⟨by have := HA.out.out.lt; simp at hy; omega, by simp⟩), acc, ms, v, HX.out.trans (psStep_nil hpn), h1, HA.out.keep0 kW⟩
      case stop2 =>
        rintro c pre' W2 hpre' ⟨rfl, hne, hE, hK2⟩
        have ce := hE.cell 0
        simp at ce
        have hpn : piecesOf xp ≠ [] := fun h => hne (by
          have := hpre'.length_le
          rw [number_length, h] at this
          exact List.length_eq_zero_iff.1 (by simpa using this))
        have kW : Keep [] W W2 := kV1.trans hK2 (fun y hy hlt => by simp at hy; omega)
        obtain ⟨hrs, hrw, hro⟩ := readS_ok xp
        have HRd := fun W => Lib.hid (sread_any xp W (by omega))
        have hbad := fun h => psStep_bad (acc := acc) (x := (xi, xp)) hpn h
        have hgood := fun h h' => psStep_good (acc := acc) (x := (xi, xp)) hpn h h'
        dsimp only at hbad hgood
        have hal : acc.length = ms.length := by rw [HA.out.acc]; simp
        generalize readS xp = r at *
        have HA2 := Lib.hid (HA.out.keep0 kW)
        have HKW := Lib.hid kW
        have HHl := Lib.hid hal
        have HH1 := Lib.hid h1
        clear hE hK2 hpre' hne bE bS hpn kV1 kW hr' hrl hal h1
        gi_wp2_with (first
          | (refine ⟨trivial, ?_⟩; gi_at_call 22; refine ((callsIn_wide.2 (HRd _).out).inRound l).mono ?_; rintro e w3 ⟨vs, vw, rfl, hs3, hw3, k3⟩)
          | (refine stopIn_store 45 (.tmp 9) (.tmp 26) rfl ?_))
        constructor
        obtain ⟨sa, sc, rfl⟩ := own_shape hs3
        obtain ⟨wa, wc, rfl⟩ := own_shape hw3
        have hone : ∀ y, y ∈ stpCells (r.1, ⟨sa, sc, wa, wc⟩) → y.oneCell' = true := by intro y hy; simp [stpCells] at hy; rcases hy with rfl | rfl | rfl | rfl | rfl <;> rfl
        refine wpListIn_store_all rfl 45 (.tmp 9) (.tmp 26) rfl rfl rfl (vs := stpCells (r.1, ⟨sa, sc, wa, wc⟩)) agg_step.2 (Blk.new _ _ _) hone rfl ?_
        intro w4 d4 k4
        have k34 : Keep [] w3 w4 := ((Keep.refl [] w3).alloc _).trans k4 (fun y hy h => by simp at hy h; omega)
        have hz2 : w.heap.size + 5 ≤ W2.heap.size := by have := HA2.out.keep.size; omega
        have hm : OStp w4 (w.heap.size + 5) (r.1, ⟨sa, sc, wa, wc⟩) := (OStp.base ⟨hs3, hw3, hro, by unfold maxLen; dsimp only; omega, by unfold maxLen; dsimp only; omega⟩ (by omega) : OStp w3 _ _).keep0 k34
        have hA4 := HA2.out.keep0 (k3.then k34)
        have HK4 := Lib.hid (HKW.out.then (k3.then k34))
        have HM4 := Lib.hid hm
        have HD4 := Lib.hid d4
        clear hs3 hw3 k3 k34 k4 d4 hm hrs hrw hro
        generalize w3.heap.size = g9 at *
        obtain ⟨A, cp, rfl⟩ := own_shape hA4.own.row
        have c3 := hA4.out.cell 0
        have f3 := hA4.out.frozen 0
        have c0 := hA4.res.cell 0
        have f0 := hA4.res.frozen 0
        have c1 := hA4.at_.cell 0
        have f1 := hA4.at_.frozen 0
        have c2 := hA4.err.cell 0
        have f2 := hA4.err.frozen 0
        simp at c0 c1 c2 c3
        have HA4 := Lib.hid hA4
        have hne5 : ∀ g, Blk w4 g 35 #[.slice A ms.length cp] → g ∉ (Value.slice A ms.length cp).ownBlock.toList := fun g hg hm => unown_ne HA4.out.own.row hg (by decide) (by simpa using hm)
        clear hA4
        by_cases hq : acc.length = 512
        · have hq1 : ((ms.length : Int) == 512) = true := by have := HHl.out; rw [beq_iff_eq]; omega
          cases hok : r.2
          all_goals
            have HF : Hid (psFold [] (pre ++ [(xi, xp)]) = .error xi) := HX.out.trans (hbad (.inr hq))
            clear hbad hgood
            gi_wp2
            have k0 := keep_set w4 w.heap.size 0 (.slice none 0 0)
            have k1 := keep_set (w4.setCell ⟨w.heap.size, 0, none⟩ (.slice none 0 0)) (w.heap.size + 1) 0 (.int .i64 xi)
            have k2 := keep_set ((w4.setCell ⟨w.heap.size, 0, none⟩ (.slice none 0 0)).setCell ⟨w.heap.size + 1, 0, none⟩ (.int .i64 xi)) (w.heap.size + 2) 0 (.int .i64 340)
            have kk : Keep [w.heap.size, w.heap.size + 1, w.heap.size + 2] w4 _ := ((k0.mono (by simp)).trans (k1.mono (G := [w.heap.size, w.heap.size + 1, w.heap.size + 2]) (by simp)) (fun y hy _ => hy)).trans k2 (by simp)
            have e0 := ((HA4.out.res.set_ 0 (.slice none 0 0)).keep k1 (by simp)).keep k2 (by simp)
            have e1 := ((HA4.out.at_.keep k0 (by simp)).set_ 0 (.int .i64 xi)).keep k2 (by simp)
            have e2 := ((HA4.out.err.keep k0 (by simp)).keep k1 (by simp)).set_ 0 (.int .i64 340)
            have kf := (HK4.out.mono (G := [w.heap.size, w.heap.size + 1, w.heap.size + 2]) (by simp)).trans kk (fun y hy _ => hy)
            exact ⟨kf.from (fun y hy => .inl (by simp at hy; omega)), Same.keep kf (fun y hy => ⟨by have := HA.out.out.lt; simp at hy; omega, by simp at hy; simp; omega⟩), rfl, xi, HF.out, e0, e1, e2, (K0.trans HA4.out.keep (fun y hy hlt => by simp at hy; omega)).trans kk (fun y hy hlt => by simp at hy; omega)⟩
        · have hq1 : ((ms.length : Int) == 512) = false := by have := HHl.out; rw [beq_eq_false_iff_ne]; omega
          cases hok : r.2
          · skip
            have HF : Hid (psFold [] (pre ++ [(xi, xp)]) = .error xi) := HX.out.trans (hbad (.inl hok))
            clear hbad hgood
            gi_wp2
            have k0 := keep_set w4 w.heap.size 0 (.slice none 0 0)
            have k1 := keep_set (w4.setCell ⟨w.heap.size, 0, none⟩ (.slice none 0 0)) (w.heap.size + 1) 0 (.int .i64 xi)
            have k2 := keep_set ((w4.setCell ⟨w.heap.size, 0, none⟩ (.slice none 0 0)).setCell ⟨w.heap.size + 1, 0, none⟩ (.int .i64 xi)) (w.heap.size + 2) 0 (.int .i64 340)
            have kk : Keep [w.heap.size, w.heap.size + 1, w.heap.size + 2] w4 _ := ((k0.mono (by simp)).trans (k1.mono (G := [w.heap.size, w.heap.size + 1, w.heap.size + 2]) (by simp)) (fun y hy _ => hy)).trans k2 (by simp)
            have e0 := ((HA4.out.res.set_ 0 (.slice none 0 0)).keep k1 (by simp)).keep k2 (by simp)
            have e1 := ((HA4.out.at_.keep k0 (by simp)).set_ 0 (.int .i64 xi)).keep k2 (by simp)
            have e2 := ((HA4.out.err.keep k0 (by simp)).keep k1 (by simp)).set_ 0 (.int .i64 340)
            have kf := (HK4.out.mono (G := [w.heap.size, w.heap.size + 1, w.heap.size + 2]) (by simp)).trans kk (fun y hy _ => hy)
            exact ⟨kf.from (fun y hy => .inl (by simp at hy; omega)), Same.keep kf (fun y hy => ⟨by have := HA.out.out.lt; simp at hy; omega, by simp at hy; simp; omega⟩), rfl, xi, HF.out, e0, e1, e2, (K0.trans HA4.out.keep (fun y hy hlt => by simp at hy; omega)).trans kk (fun y hy hlt => by simp at hy; omega)⟩
          · have HF : Hid (psFold [] (pre ++ [(xi, xp)]) = .ok (acc ++ [r.1])) := HX.out.trans (hgood hok hq)
            have hrow := HA4.out.own.row
            have hDat : CellsAt w4 g9 0 [.int .i64 r.1.kind, .int .i64 r.1.a, .int .i64 r.1.n, .slice sa r.1.secs.length sc, .slice wa r.1.words.length wc] := HD4.out.cellsAt
            have hB : w.heap.size + 5 ≤ w4.heap.size := by have := HA4.out.keep.size; omega
            have hml : ms.length ≤ 512 := by have := HH1.out; have := HHl.out; omega
            clear hbad hgood
            gi_wp2_with (first
              | (refine wpListIn_agg rfl 45 (.tmp 9) rfl rfl (cs := [.int .i64 r.1.kind, .int .i64 r.1.a, .int .i64 r.1.n, .slice sa r.1.secs.length sc, .slice wa r.1.words.length wc]) agg_step hDat ?_)
              | (gi_at_builtin; refine wpListIn_append_one rfl (.tmp 36) (.tmp 38) 35 rfl slice_stp hrow rfl rfl (us := [.int .i64 r.1.kind, .int .i64 r.1.a, .int .i64 r.1.n, .slice sa r.1.secs.length sc, .slice wa r.1.words.length wc]) rfl (by simp [Value.oneCell']) hB (by omega) (by unfold maxLen; omega) ?_; intro v' w5 hown5 k5 hat5; obtain ⟨A', c', rfl⟩ := own_shape hown5; have b5 := HA4.out.out.keep k5 (hne5 _ HA4.out.out); have c5 := b5.cell 0; have f5 := b5.frozen 0; simp at c5))
            have k6 := keep_set w5 (w.heap.size + 3) 0 (.slice A' (ms.length + 1) c')
            have hO5 : OwnSteps w5 (w.heap.size + 5) (.slice A' (ms.length + 1) c') (ms ++ [(r.1, ⟨sa, sc, wa, wc⟩)]) := HA4.out.own.app HM4.out k5 hown5
            have hO6 := hO5.other k6 (fun g hg => by simp at hg; subst hg; exact ⟨_, _, _, b5, by decide, by decide, by decide⟩)
            have hob : ∀ y, y ∈ (Value.slice A ms.length cp).ownBlock.toList → w.heap.size + 5 ≤ y := row_base HA4.out.own.row
            have hclW : ∀ y, y ∈ (Value.slice A ms.length cp).ownBlock.toList → ∃ cs t fr, W.heap[y]? = some (.cells cs t fr) := own_cells HA.out.own.row
            have hnt : ∀ {g t : Nat} {cs : Array Value}, Blk w4 g t cs → 45 ≠ t → g ∉ (Value.slice A ms.length cp).ownBlock.toList := fun hg ht hm => unown_ne HA4.out.own.row hg ht (by simpa using hm)
            have kf : Keep ((w.heap.size + 3) :: (Value.slice A ms.length cp).ownBlock.toList) W _ := (HK4.out.mono (by simp)).trans ((k5.mono (G := (w.heap.size + 3) :: (Value.slice A ms.length cp).ownBlock.toList) (fun x hx _ => List.mem_cons_of_mem _ hx)).trans k6 (fun y hy _ => by simp at hy; subst hy; exact List.mem_cons_self)) (fun y hy _ => hy)
            have hf1 : KeepsFrom W0.heap.size W _ := kf.from (fun y hy => by
              rcases List.mem_cons.1 hy with rfl | hy
              · exact .inl (by omega)
              · exact .inr (hclW y hy))
            have hf2 : Same [w.heap.size + 4] W _ := Same.keep kf (fun y hy => by
              simp only [List.mem_singleton] at hy
              subst hy
              refine ⟨by have := HA.out.out.lt; omega, fun hm => ?_⟩
              rcases List.mem_cons.1 hm with h | h
              · omega
              · have := hob _ h; omega)
            refine ⟨hf1, hf2, acc ++ [r.1], ms ++ [(r.1, ⟨sa, sc, wa, wc⟩)], .slice A' (ms.length + 1) c', HF.out, ?_, ?_, hO6, b5.set_ 0 _, (HA4.out.res.keep k5 (hnt HA4.out.res (by decide))).keep k6 (by simp), (HA4.out.at_.keep k5 (hnt HA4.out.at_ (by decide))).keep k6 (by simp), (HA4.out.err.keep k5 (hnt HA4.out.err (by decide))).keep k6 (by simp), ?_⟩
            · have := HH1.out
              rw [List.length_append]
              simp
              omega
            · rw [List.map_append, ← HA.out.acc]; rfl
            · refine (HA4.out.keep.trans k5 (fun y hy hlt => ?_)).trans k6 (fun y hy _ => by simp at hy; simp [hy])
              have := hob y hy
              omega
    case done =>
      rintro D W hD ⟨acc, ms, v, h0, h1, h2⟩ hD2
      have HM : Hid (parseS s = (acc, 0, 0)) := by show _ = _; rw [hP0.out, h0]
      obtain ⟨A, c, rfl⟩ := own_shape h2.own.row
      have c3 := h2.out.cell 0
      have c0 := h2.res.cell 0
      have f0 := h2.res.frozen 0
      have c1 := h2.at_.cell 0
      have f1 := h2.at_.frozen 0
      have c2 := h2.err.cell 0
      have f2 := h2.err.frozen 0
      simp at c0 c1 c2 c3
      have HA := Lib.hid h2
      clear h2 h0
      gi_wp2
      have k0 := keep_set W w.heap.size 0 (.slice A ms.length c)
      have k1 := keep_set (W.setCell ⟨w.heap.size, 0, none⟩ (.slice A ms.length c)) (w.heap.size + 1) 0 (.int .i64 0)
      have k2 := keep_set ((W.setCell ⟨w.heap.size, 0, none⟩ (.slice A ms.length c)).setCell ⟨w.heap.size + 1, 0, none⟩ (.int .i64 0)) (w.heap.size + 2) 0 (.int .i64 0)
      have kk : Keep [w.heap.size, w.heap.size + 1, w.heap.size + 2] W _ := ((k0.mono (by simp)).trans (k1.mono (G := [w.heap.size, w.heap.size + 1, w.heap.size + 2]) (by simp)) (fun y hy _ => hy)).trans k2 (by simp)
      have e0 := ((HA.out.res.set_ 0 (.slice A ms.length c)).keep k1 (by simp)).keep k2 (by simp)
      have e1 := ((HA.out.at_.keep k0 (by simp)).set_ 0 (.int .i64 0)).keep k2 (by simp)
      have e2 := ((HA.out.err.keep k0 (by simp)).keep k1 (by simp)).set_ 0 (.int .i64 0)
      have hD3 := (kk.block D (Array.getElem?_eq_some_iff.1 hD2).1 (by simp; omega)).trans hD2
      refine ⟨by simp, .inl ⟨_, _, rfl, run_takeDeferred hD3, ?_⟩⟩
      have m0 := (blk_putObj (.deferred none) e0 hD3 rfl).cell 0
      have m1 := (blk_putObj (.deferred none) e1 hD3 rfl).cell 0
      have m2 := (blk_putObj (.deferred none) e2 hD3 rfl).cell 0
      have kp := keep_putObj (((W.setCell ⟨w.heap.size, 0, none⟩ (.slice A ms.length c)).setCell ⟨w.heap.size + 1, 0, none⟩ (.int .i64 0)).setCell ⟨w.heap.size + 2, 0, none⟩ (.int .i64 0)) D (.deferred none)
      have m3 := ((K0.trans HA.out.keep (fun y hy hlt => by simp at hy; omega)).trans kk (fun y hy hlt => by simp at hy; omega)).trans kp (fun y hy hlt => by simp at hy; omega)
      simp at m0 m1 m2
      refine ⟨.tuple #[.slice A ms.length c, .int .i64 0, .int .i64 0], by simp [results, Try.results29, go_sem, m0, m1, m2], ?_⟩
      rw [HM.out]
      have hO1 := HA.out.own.other kk (fun g hg => by
        rcases List.mem_cons.1 hg with rfl | hg
        · exact ⟨_, _, _, HA.out.res, by decide, by decide, by decide⟩
        · rcases List.mem_cons.1 hg with rfl | hg
          · exact ⟨_, _, _, HA.out.at_, by decide, by decide, by decide⟩
          · simp at hg
            subst hg
            exact ⟨_, _, _, HA.out.err, by decide, by decide, by decide⟩)
      have hnd : ∀ {e size n : Nat} {v : Value} {xs : List Value}, World.ownsRow (((W.setCell ⟨w.heap.size, 0, none⟩ (.slice A ms.length c)).setCell ⟨w.heap.size + 1, 0, none⟩ (.int .i64 0)).setCell ⟨w.heap.size + 2, 0, none⟩ (.int .i64 0)) (w.heap.size + 5) e size v n xs → ∀ g, v.ownBlock = some g → g ∉ [D] := fun hrow g hg hm => by
        obtain ⟨cs, fr, hh⟩ := row_typed hrow g (by simp [hg])
        simp at hm
        subst hm
        rw [hh] at hD3
        cases hD3
      have hO2 := hO1.keep (kp.mono (G := [D]) (by simp)) (hnd hO1.row) (fun m hm => hnd (hO1.each m hm).secs) (fun m hm => hnd (hO1.each m hm).words)
      exact ⟨A, c, ms, HA.out.acc, rfl, hO2.base (by omega), m3⟩
    case stop =>
      rintro D c pre W hD hpre ⟨rfl, n, hX⟩ hD2
      have HM : Hid (parseS s = ([], n, 340)) := by show _ = _; rw [hP0.out, psFold_prefix hpre hX.err_]
      have c0 := hX.res.cell 0
      have c1 := hX.at_.cell 0
      have c2 := hX.err.cell 0
      simp at c0 c1 c2
      have HX := Lib.hid hX
      clear hX
      gi_wp2
      refine ⟨by simp, .inl ⟨_, _, rfl, run_takeDeferred hD2, ?_⟩⟩
      have m0 := (blk_putObj (.deferred none) HX.out.res hD2 rfl).cell 0
      have m1 := (blk_putObj (.deferred none) HX.out.at_ hD2 rfl).cell 0
      have m2 := (blk_putObj (.deferred none) HX.out.err hD2 rfl).cell 0
      have m3 := HX.out.keep.trans (keep_putObj _ D (.deferred none)) (fun y hy hlt => by simp at hy; omega)
      simp at m0 m1 m2
      refine ⟨.tuple #[.slice none 0 0, .int .i64 n, .int .i64 340], by simp [results, Try.results29, go_sem, m0, m1, m2], ?_⟩
      rw [HM.out]
      exact ⟨none, 0, [], rfl, rfl, OwnSteps.nil _ _, m3⟩
end Go.Proofs.Ytoepkhkaifgddaa

namespace Go.Proofs.Ytoepkhkaifgddaa
open Go.RowKit

theorem read_ex : readS { data := #[111, 102, 102, 101, 114, 32, 50, 32, 53, 32, 48, 58, 49, 45, 51] } = (⟨2, 2, 5, [⟨0, 1, 3⟩], []⟩, true) := by decide +kernel
theorem parse_ex : parseS { data := #[98, 111, 111, 116, 32, 35, 32, 111, 110, 10, 10, 116, 105, 99, 107, 32, 51] } = ([⟨15, 0, 0, [], []⟩, ⟨1, 0, 3, [], []⟩], 0, 0) := by decide +kernel

set_option maxRecDepth 100000 in
theorem alive34_any (w : World) : Calls Try.prog 17 #[] w fun e w' => e = .returned (.bool true) ∧ Keep [] w w' := by
  have HR := fun W => Lib.hid (sread_any { data := #[111, 102, 102, 101, 114, 32, 50, 32, 53, 32, 48, 58, 49, 45, 51] } W (by decide))
  have HP := fun W => Lib.hid (sparse_any { data := #[98, 111, 111, 116, 32, 35, 32, 111, 110, 10, 10, 116, 105, 99, 107, 32, 51] } W (by decide))
  rw [read_ex] at HR
  rw [parse_ex] at HP
  go_enter Try.func17, Try.ntmps17
  go_wp2_with (first
    | (refine (HR _).out.mono ?_; rintro e w1 ⟨vs, vw, rfl, hs1, hw1, k1⟩)
    | (refine stop_store 45 (.tmp 1) (.tmp 8) rfl ?_))
  constructor
  obtain ⟨sa, sc, rfl⟩ := own_shape hs1
  obtain ⟨wa, wc, rfl⟩ := own_shape hw1
  refine wpList_store_all rfl 45 (.tmp 1) (.tmp 8) rfl rfl rfl (vs := [.int .i64 2, .int .i64 2, .int .i64 5, .slice sa 1 sc, .slice wa 0 wc]) agg_step.2 (Blk.new _ _ _) (by simp [Value.oneCell']) rfl ?_
  intro w2 d2 k2
  have k12 : Keep [] w1 w2 := ((Keep.refl [] w1).alloc _).trans k2 (fun y hy h => by simp at hy h; omega)
  have HK2 := Lib.hid (k1.then k12)
  have HD2 := Lib.hid d2
  clear k1 k2 k12 d2 hs1 hw1 HR
  generalize w1.heap.size = g1 at *
  go_wp2_with fail
  refine (HP _).out.mono ?_
  rintro e w3 ⟨A, c, ms, hm, rfl, hO, k3⟩
  have hl := congrArg List.length hm
  simp only [List.length_cons, List.length_nil, List.length_map] at hl
  have D3 := HD2.out.keep0 k3
  have c0 := D3.cell 0
  have c1 := D3.cell 1
  have c2 := D3.cell 2
  have c3 := D3.cell 3
  simp at c0 c1 c2 c3
  have hl2 : ms.length = 2 := hl.symm
  rw [hl2]
  clear hl hm hO HP D3
  go_wp2
  go_ret
  exact ⟨by simp, HK2.out.then k3⟩
end Go.Proofs.Ytoepkhkaifgddaa
