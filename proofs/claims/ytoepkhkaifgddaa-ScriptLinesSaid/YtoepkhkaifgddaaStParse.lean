/- The steps of a text: what the program's Parse computes, in plain Lean. No condition. -/
import Derived.Test.YtoepkhkaifgddaaStReadW
import Derived.Test.YtoepkhkaifgddaaDigLns
namespace Go.Proofs.Ytoepkhkaifgddaa
open Go.RowKit

/-- One line more; Except.error n: line n is none's, or there are too many steps. -/
def psStep (acc : List Stp) (x : NumStr) : Except Int (List Stp) :=
  if piecesOf x.2 = [] then .ok acc
  else if (readS x.2).2 = true ∧ acc.length ≠ 512 then .ok (acc ++ [(readS x.2).1])
  else .error x.1
def psFold (acc : List Stp) : List NumStr → Except Int (List Stp)
  | [] => .ok acc
  | x :: l => (psStep acc x).bind (fun a => psFold a l)
/-- The steps of a text, a line, and a number of an error. -/
def parseS (text : ByteArray) : List Stp × Int × Int :=
  if 65536 < text.size then ([], 0, 340)
  else match psFold [] (number 1 (linesT text)) with
    | .ok l => (l, 0, 0)
    | .error n => ([], n, 340)
theorem psFold_append : ∀ (l m : List NumStr) (acc : List Stp), psFold acc (l ++ m) = (psFold acc l).bind (fun a => psFold a m)
  | [], _, _ => rfl
  | x :: l, m, acc => by
    rw [List.cons_append, psFold, psFold]
    cases psStep acc x with
    | error n => rfl
    | ok a => exact psFold_append l m a
theorem psFold_snoc (l : List NumStr) (x : NumStr) (acc : List Stp) : psFold acc (l ++ [x]) = (psFold acc l).bind (fun a => psStep a x) := by
  rw [psFold_append]
  congr 1
  funext a
  show (psStep a x).bind _ = _
  cases psStep a x <;> rfl
theorem psFold_prefix {l m : List NumStr} {acc : List Stp} {n : Int} (h : l <+: m) (hl : psFold acc l = .error n) : psFold acc m = .error n := by
  obtain ⟨r, rfl⟩ := h
  rw [psFold_append, hl]; rfl
theorem psStep_len {acc l : List Stp} {x : NumStr} (ha : acc.length ≤ 512) (h : psStep acc x = .ok l) : l.length ≤ 512 := by
  unfold psStep at h
  split at h
  · cases h; exact ha
  · split at h
    · rename_i hc
      cases h
      rw [List.length_append]
      have := hc.2
      simp
      omega
    · cases h
/-- Every step that is read holds words below 2^32, and no more of them than the line has pieces. -/
def WordsOk (s : Stp) : Prop := ∀ k ∈ s.words, k < 4294967296
theorem partP_wordsOk {s : Stp} (h : WordsOk s) (c : Int) (p : ByteArray) : WordsOk (partP s c p).1 := by
  unfold partP
  split
  · exact h
  · split
    · exact h
    · split
      · exact h
      · split
        · exact h
        · intro k hk
          rcases List.mem_append.1 hk with hk | hk
          · exact h k hk
          · simp at hk
            subst hk
            exact readWP_lt _
theorem rdStep_wordsOk {st st' : RdS} {x : NumStr} (h : WordsOk st.s) (he : rdStep st x = some st') : WordsOk st'.s := by
  unfold rdStep at he
  split at he
  · split at he
    · cases he
    · cases he; exact h
  · split at he
    · cases he
    · split at he
      · cases he
      · split at he
        · cases he; exact partP_wordsOk h _ _
        · cases he
theorem rdFold_ok : ∀ (l : List NumStr) (st st' : RdS) (n : Nat), RdOk st n → WordsOk st.s → rdFold st l = some st' → RdOk st' (n + l.length) ∧ WordsOk st'.s
  | [], st, st', n, h, hw, he => by cases he; exact ⟨h, hw⟩
  | x :: l, st, st', n, h, hw, he => by
    rw [rdFold] at he
    obtain ⟨s2, h1, h2⟩ := Option.bind_eq_some_iff.1 he
    have := rdFold_ok l s2 st' (n + 1) (rdStep_ok h h1) (rdStep_wordsOk hw h1) h2
    rw [List.length_cons, show n + (l.length + 1) = n + 1 + l.length by omega]
    exact this
theorem readS_ok (s : ByteArray) : (readS s).1.secs.length ≤ s.size + 1 ∧ (readS s).1.words.length ≤ s.size + 1 ∧ WordsOk (readS s).1 := by
  have hl := (scan_le s (s.size + 1)).1
  have h0 : WordsOk noStp := by intro k hk; cases hk
  unfold readS
  split
  · rename_i st he
    obtain ⟨h1, h2⟩ := rdFold_ok _ _ _ 0 rd0_ok h0 he
    rw [number_length] at h1
    have h3 : (piecesOf s).length ≤ s.size + 1 := hl
    unfold rdDone
    split
    · exact ⟨Nat.zero_le _, Nat.zero_le _, h0⟩
    · exact ⟨show st.s.secs.length ≤ s.size + 1 by have := h1.secs; omega, show st.s.words.length ≤ s.size + 1 by have := h1.words; omega, h2⟩
  · exact ⟨Nat.zero_le _, Nat.zero_le _, h0⟩
/-- A step in memory whose slices are rows of their own, from block b on. -/
structure OStp (W : World) (b : Nat) (m : Stp × StpV) : Prop where
  secs : W.ownsRow b 85 3 (.slice m.2.sa m.1.secs.length m.2.sc) m.1.secs.length (m.1.secs.flatMap sctCells)
  words : W.ownsRow b 77 1 (.slice m.2.wa m.1.words.length m.2.wc) m.1.words.length (u32s m.1.words)
  ok : WordsOk m.1
  lens : m.1.secs.length ≤ maxLen ∧ m.1.words.length ≤ maxLen
theorem OStp.keep {F : List Nat} {W W' : World} {b : Nat} {m : Stp × StpV} (h : OStp W b m) (k : Keep F W W') (hs : ∀ g, (Value.slice m.2.sa m.1.secs.length m.2.sc).ownBlock = some g → g ∉ F) (hw : ∀ g, (Value.slice m.2.wa m.1.words.length m.2.wc).ownBlock = some g → g ∉ F) : OStp W' b m :=
  ⟨own_keep h.secs k hs, own_keep h.words k hw, h.ok, h.lens⟩
theorem OStp.keep0 {W W' : World} {b : Nat} {m : Stp × StpV} (h : OStp W b m) (k : Keep [] W W') : OStp W' b m := h.keep k (by simp) (by simp)
theorem OStp.base {W : World} {b b' : Nat} {m : Stp × StpV} (h : OStp W b m) (hb : b' ≤ b) : OStp W b' m := ⟨own_base h.secs hb, own_base h.words hb, h.ok, h.lens⟩
theorem OStp.at_ {W : World} {b : Nat} {m : Stp × StpV} (h : OStp W b m) : StepAt W m.2 m.1 := ⟨Reads.of_own h.secs, Reads.of_own h.words, h.ok, h.lens.1, h.lens.2⟩
/-- A row of steps, its own, from block b on. -/
structure OwnSteps (W : World) (b : Nat) (v : Value) (ms : List (Stp × StpV)) : Prop where
  row : W.ownsRow b 45 5 v ms.length (ms.flatMap stpCells)
  each : ∀ m ∈ ms, OStp W b m
theorem OwnSteps.nil (W : World) (b : Nat) : OwnSteps W b (.slice none 0 0) [] := ⟨World.ownsRow_nil _ _ _ _, fun m hm => by cases hm⟩
theorem OwnSteps.keep {F : List Nat} {W W' : World} {b : Nat} {v : Value} {ms : List (Stp × StpV)} (h : OwnSteps W b v ms) (k : Keep F W W') (hv : ∀ g, v.ownBlock = some g → g ∉ F)
    (hs : ∀ m ∈ ms, ∀ g, (Value.slice m.2.sa m.1.secs.length m.2.sc).ownBlock = some g → g ∉ F) (hw : ∀ m ∈ ms, ∀ g, (Value.slice m.2.wa m.1.words.length m.2.wc).ownBlock = some g → g ∉ F) : OwnSteps W' b v ms :=
  ⟨own_keep h.row k hv, fun m hm => (h.each m hm).keep k (hs m hm) (hw m hm)⟩
theorem OwnSteps.keep0 {W W' : World} {b : Nat} {v : Value} {ms : List (Stp × StpV)} (h : OwnSteps W b v ms) (k : Keep [] W W') : OwnSteps W' b v ms := h.keep k (by simp) (by simp) (by simp)
/-- A change of blocks of other types only. -/
theorem OwnSteps.other {F : List Nat} {W W' : World} {b : Nat} {v : Value} {ms : List (Stp × StpV)} (h : OwnSteps W b v ms) (k : Keep F W W') (hF : ∀ g, g ∈ F → ∃ cs t fr, W.heap[g]? = some (.cells cs t fr) ∧ t ≠ 45 ∧ t ≠ 85 ∧ t ≠ 77) : OwnSteps W' b v ms := by
  refine h.keep k (fun g hg hm => ?_) (fun m hm g hg hm2 => ?_) (fun m hm g hg hm2 => ?_)
  · obtain ⟨cs, t, fr, h1, h2, h3, h4⟩ := hF g hm
    exact unown_ne h.row h1 (Ne.symm h2) hg
  · obtain ⟨cs, t, fr, h1, h2, h3, h4⟩ := hF g hm2
    exact unown_ne (h.each m hm).secs h1 (Ne.symm h3) hg
  · obtain ⟨cs, t, fr, h1, h2, h3, h4⟩ := hF g hm2
    exact unown_ne (h.each m hm).words h1 (Ne.symm h4) hg
/-- A step is appended. -/
theorem OwnSteps.app {W W' : World} {b : Nat} {v v' : Value} {ms : List (Stp × StpV)} {m : Stp × StpV} (h : OwnSteps W b v ms) (hm : OStp W b m) (k : Keep v.ownBlock.toList W W') (hr : W'.ownsRow b 45 5 v' (ms.length + 1) (ms.flatMap stpCells ++ stpCells m)) : OwnSteps W' b v' (ms ++ [m]) := by
  have key : ∀ y, OStp W b y → OStp W' b y := fun y hy => hy.keep k (row_apart h.row hy.secs (by decide)) (row_apart h.row hy.words (by decide))
  refine ⟨by simpa using hr, fun y hy => ?_⟩
  rcases List.mem_append.1 hy with hy | hy
  · exact key y (h.each y hy)
  · simp at hy
    subst hy
    exact key _ hm
theorem OwnSteps.base {W : World} {b b' : Nat} {v : Value} {ms : List (Stp × StpV)} (h : OwnSteps W b v ms) (hb : b' ≤ b) : OwnSteps W b' v ms := ⟨own_base h.row hb, fun m hm => (h.each m hm).base hb⟩
theorem OwnSteps.at_ {W : World} {b : Nat} {A : Option Addr} {n c : Nat} {ms : List (Stp × StpV)} (h : OwnSteps W b (.slice A n c) ms) (hl : ms.length ≤ maxLen) : n = ms.length ∧ StepsAt W A ms := by
  obtain ⟨A', c', e⟩ := own_shape h.row
  cases e
  exact ⟨rfl, Reads.of_own h.row, fun m hm => (h.each m hm).at_, hl⟩
theorem slice_stp : SliceOf Try.prog 35 45 5 72 := ⟨Try.underlying35, by kernel_rfl, by decide⟩
end Go.Proofs.Ytoepkhkaifgddaa
