/- What is printed of an image that may be is parsed as it was: plain, no program in sight. No condition. What is printed of an image that may be is parsed as it was: its lines; plain, no program in sight. No condition. -/
import Derived.Test.YtoepkhkaifgddaaSrcD
import Derived.Test.YtoepkhkaifgddaaSrcRt
import Derived.Test.YtoepkhkaifgddaaStBackP
namespace Go.Proofs.Ytoepkhkaifgddaa
open Go.RowKit

/-- The pieces of a row of numbers. -/
def pairW (sg : UInt8) (i : Nat) (n : Int) : List UInt8 := decL (clampN i) ++ sg :: decL (clampN n)
def pairL (sg : UInt8) : Nat → List Int → List (List UInt8)
  | _, [] => []
  | i, n :: l => (if n = 0 then [] else [pairW sg i n]) ++ pairL sg (i + 1) l
theorem pairsT_pieces (sg : UInt8) : ∀ (l : List Int) (i : Nat), pairsT [sg] i l = (pairL sg i l).flatMap (fun q => 32 :: q)
  | [], _ => rfl
  | n :: l, i => by
    rw [pairsT, pairL, List.flatMap_append, pairsT_pieces sg l (i + 1)]
    congr 1
    by_cases h : n = 0
    · rw [if_pos h, if_pos h]; rfl
    · rw [if_neg h, if_neg h]; simp [pairT, pairW]
theorem dig_lt {b : UInt8} (h : isDig b = true) : b ≠ 62 := by
  rintro rfl
  exact absurd h (by decide)
theorem decL_lt (n : Nat) : ∀ b ∈ decL n, b ≠ 62 := fun b hb => dig_lt (List.all_eq_true.1 (decL_dig n) b hb)
theorem pairL_mem {sg : UInt8} : ∀ (l : List Int) (i : Nat), ∀ q ∈ pairL sg i l, ∃ k n, q = pairW sg k n
  | [], _, q, hq => by cases hq
  | n :: l, i, q, hq => by
    rw [pairL] at hq
    rcases List.mem_append.1 hq with hq | hq
    · split at hq
      · cases hq
      · rw [List.mem_singleton] at hq; exact ⟨i, n, hq⟩
    · exact pairL_mem l (i + 1) q hq
/-- A piece that can stand in a line. -/
def Fine (q : List UInt8) : Prop := q ≠ [] ∧ ∀ b ∈ q, b ≠ 32 ∧ b ≠ 10 ∧ b ≠ 35
theorem Fine.clean {q : List UInt8} (h : Fine q) : Clean q := ⟨h.1, fun b hb => (h.2 b hb).1⟩
theorem decL_fine (n : Nat) : Fine (decL n) := ⟨decL_ne n, fun b hb => by have := decL_clean n b hb; exact ⟨this.1, this.2.1, this.2.2.1⟩⟩
theorem pairW_fine {sg : UInt8} (h : sg ≠ 32 ∧ sg ≠ 10 ∧ sg ≠ 35) (i : Nat) (n : Int) : Fine (pairW sg i n) := by
  refine ⟨by simp [pairW], fun b hb => ?_⟩
  unfold pairW at hb
  rcases List.mem_append.1 hb with hb | hb
  · exact (decL_fine _).2 b hb
  · rcases List.mem_cons.1 hb with rfl | hb
    · exact h
    · exact (decL_fine _).2 b hb
theorem joinP_line {p : List UInt8} {ps : List (List UInt8)} (hp : Fine p) (hq : ∀ q ∈ ps, Fine q) : CleanL (joinP p ps) ∧ piecesOf (mkB (joinP p ps)) = (p :: ps).map mkB := by
  refine ⟨fun b hb => ?_, pieces_of p ps hp.clean (fun q h => (hq q h).clean)⟩
  unfold joinP at hb
  rcases List.mem_append.1 hb with hb | hb
  · exact (hp.2 b hb).2
  · obtain ⟨q, h1, h2⟩ := List.mem_flatMap.1 hb
    rcases List.mem_cons.1 h2 with rfl | h2
    · decide
    · exact ((hq q h1).2 b h2).2
/-- Numbers that are read as they were. -/
theorem readP_ok {n : Int} (h0 : 0 ≤ n) (h1 : n ≤ 2147483647) : readP (decL (clampN n)) = (n, 0) := readP_num (by unfold numB; simp; omega)
theorem pairP_back (sg : Nat) (hs : sg < 256) (hd : ∀ n, ∀ b ∈ decL n, b ≠ sg.toUInt8) (pre r : List Int) (n : Int) (hn : n ≠ 0) (h0 : 0 ≤ n) (h1 : n ≤ 2147483647) (hl : pre.length ≤ 1000) :
    pairP (sg : Nat) (mkB (pairW sg.toUInt8 pre.length n)) (pre ++ 0 :: r) = some (pre ++ n :: r) := by
  have e := splitB_mk (decL (clampN (pre.length : Int))) (decL (clampN n)) sg hs (hd _)
  unfold pairP
  unfold pairW
  have hp : readP (decL (clampN (pre.length : Int))) = ((pre.length : Int), 0) := readP_ok (by omega) (by omega)
  have hq : readP (decL (clampN n)) = (n, 0) := readP_ok h0 h1
  rw [e]
  simp only [mkB_bytes, hp, hq]
  rw [if_pos trivial, if_pos ⟨trivial, trivial, by simp; omega, hn, by simp⟩]
  simp
theorem pairsP_back (sg : Nat) (hs : sg < 256) (hd : ∀ n, ∀ b ∈ decL n, b ≠ sg.toUInt8) : ∀ (l pre : List Int), (∀ n ∈ l, 0 ≤ n ∧ n ≤ 2147483647) → pre.length + l.length ≤ 1000 →
    pairsP sg ((pairL sg.toUInt8 pre.length l).map mkB) (pre ++ List.replicate l.length 0) = some (pre ++ l)
  | [], pre, _, _ => by simp [pairL, pairsP]
  | n :: l, pre, h, hl => by
    have hh := h n (by simp)
    have ih := pairsP_back sg hs hd l (pre ++ [n]) (fun m hm => h m (by simp [hm])) (by simp at hl ⊢; omega)
    rw [List.length_append, List.append_assoc, List.append_assoc] at ih
    rw [pairL, List.length_cons, List.replicate_succ]
    by_cases h0 : n = 0
    · subst h0
      rw [if_pos rfl, List.nil_append]
      exact ih
    · rw [if_neg h0, List.singleton_append, List.map_cons, pairsP, pairP_back sg hs hd pre _ n h0 hh.1 hh.2 (by simp at hl; omega), Option.bind_some]
      exact ih
theorem idx_none : ∀ (l : List UInt8) (c : UInt8), (∀ b ∈ l, b ≠ c) → Lib.indexByte l c = -1
  | [], _, _ => rfl
  | b :: l, c, h => by
    have hb : b ≠ c := h b (by simp)
    rw [Lib.indexByte, idx_none l c (fun x hx => h x (by simp [hx]))]
    simp [hb]
theorem splitB_none (l : List UInt8) (c : Nat) (h : ∀ b ∈ l, b ≠ c.toUInt8) : (splitB (mkB l) (c : Int)).2.2 = false := by
  have hi : idxB (mkB l) (c : Int) = -1 := by
    unfold idxB
    have e : bytesOf (mkB l) = l := mkB_bytes _
    unfold bytesOf at e
    rw [e, Int.toNat_natCast]
    exact idx_none l _ h
  unfold splitB
  rw [hi, if_neg (by omega)]
theorem pairP_none (sg : Nat) (l : List UInt8) (h : ∀ b ∈ l, b ≠ sg.toUInt8) (m : List Int) : pairP sg (mkB l) m = none := by
  unfold pairP
  rw [splitB_none l sg h, if_neg (by decide)]
theorem edgePairs_map : ∀ (l pre : List Int) (o : List Int) (rest : List ByteArray), (∀ n ∈ l, 0 ≤ n ∧ n ≤ 2147483647) → pre.length + l.length ≤ 1000 →
    edgePairs ((pairL 62 pre.length l).map mkB ++ rest) (pre ++ List.replicate l.length 0) o = edgePairs rest (pre ++ l) o
  | [], pre, o, rest, _, _ => by simp [pairL]
  | n :: l, pre, o, rest, h, hl => by
    have hh := h n (by simp)
    have ih := edgePairs_map l (pre ++ [n]) o rest (fun m hm => h m (by simp [hm])) (by simp at hl ⊢; omega)
    rw [List.length_append, List.append_assoc, List.append_assoc] at ih
    rw [pairL, List.length_cons, List.replicate_succ]
    by_cases h0 : n = 0
    · subst h0
      rw [if_pos rfl, List.nil_append]
      exact ih
    · have e : pairP 62 (mkB (pairW 62 pre.length n)) (pre ++ 0 :: List.replicate l.length 0) = some (pre ++ n :: List.replicate l.length 0) := pairP_back 62 (by decide) (fun n b hb => decL_lt n b hb) pre _ n h0 hh.1 hh.2 (by simp at hl; omega)
      rw [if_neg h0, List.singleton_append, List.map_cons, List.cons_append, edgePairs, e]
      exact ih
theorem edgePairs_offs : ∀ (l pre : List Int) (m : List Int), (∀ n ∈ l, 0 ≤ n ∧ n ≤ 2147483647) → pre.length + l.length ≤ 1000 →
    edgePairs ((pairL 58 pre.length l).map mkB) m (pre ++ List.replicate l.length 0) = some (m, pre ++ l)
  | [], pre, m, _, _ => by simp [pairL, edgePairs]
  | n :: l, pre, m, h, hl => by
    have hh := h n (by simp)
    have ih := edgePairs_offs l (pre ++ [n]) m (fun m hm => h m (by simp [hm])) (by simp at hl ⊢; omega)
    rw [List.length_append, List.append_assoc, List.append_assoc] at ih
    rw [pairL, List.length_cons, List.replicate_succ]
    by_cases h0 : n = 0
    · subst h0
      rw [if_pos rfl, List.nil_append]
      exact ih
    · have e : pairP 58 (mkB (pairW 58 pre.length n)) (pre ++ 0 :: List.replicate l.length 0) = some (pre ++ n :: List.replicate l.length 0) := pairP_back 58 (by decide) (fun n b hb => (decL_clean n b hb).2.2.2.1) pre _ n h0 hh.1 hh.2 (by simp at hl; omega)
      have e2 : pairP 62 (mkB (pairW 58 pre.length n)) m = none := pairP_none 62 _ (fun b hb => by
        unfold pairW at hb
        rcases List.mem_append.1 hb with hb | hb
        · exact decL_lt _ b hb
        · rcases List.mem_cons.1 hb with rfl | hb
          · decide
          · exact decL_lt _ b hb) m
      rw [if_neg h0, List.singleton_append, List.map_cons, edgePairs, e2, e]
      exact ih
/-- A mode's tasks. -/
def bitL (s k : Nat) : List (List UInt8) := (List.range k).flatMap (fun i => if s.testBit i then [decL (clampN (i : Int))] else [])
theorem bitL_succ (s k : Nat) : bitL s (k + 1) = bitL s k ++ (if s.testBit k then [decL (clampN (k : Int))] else []) := by
  unfold bitL
  rw [List.range_succ, List.flatMap_append]
  simp
theorem bitsT_pieces (s : Nat) : ∀ k, bitsT s k = (bitL s k).flatMap (fun q => 32 :: q)
  | 0 => rfl
  | k + 1 => by
    rw [bitsT_succ, bitL_succ, List.flatMap_append, bitsT_pieces s k]
    congr 1
    unfold bitT
    split <;> simp
theorem bitL_fine (s : Nat) : ∀ k, ∀ q ∈ bitL s k, Fine q
  | 0, q, hq => by cases hq
  | k + 1, q, hq => by
    rw [bitL_succ] at hq
    rcases List.mem_append.1 hq with hq | hq
    · exact bitL_fine s k q hq
    · split at hq
      · rw [List.mem_singleton] at hq; subst hq; exact decL_fine _
      · cases hq
theorem bitsP_append : ∀ (l m : List ByteArray) (s : Nat), bitsP (l ++ m) s = (bitsP l s).bind (bitsP m)
  | [], _, _ => rfl
  | p :: l, m, s => by
    rw [List.cons_append, bitsP, bitsP]
    cases bitP p s with
    | none => rfl
    | some t => exact bitsP_append l m t
theorem mod_succ (s k : Nat) : s % 2 ^ (k + 1) = if s.testBit k then s % 2 ^ k ||| 2 ^ k else s % 2 ^ k := by
  apply Nat.eq_of_testBit_eq
  intro i
  rw [Nat.testBit_mod_two_pow]
  by_cases hb : s.testBit k = true
  · rw [if_pos hb, Nat.testBit_or, Nat.testBit_mod_two_pow, Nat.testBit_two_pow]
    by_cases hi : k = i
    · subst hi; simp [hb]
    · by_cases h1 : i < k
      · have h2 : i < k + 1 := by omega
        simp [h1, h2, hi]
      · have h2 : ¬ i < k + 1 := by omega
        simp [h1, h2, hi]
  · rw [if_neg hb, Nat.testBit_mod_two_pow]
    by_cases hi : k = i
    · subst hi; simp [hb]
    · by_cases h1 : i < k
      · have h2 : i < k + 1 := by omega
        simp [h1, h2]
      · have h2 : ¬ i < k + 1 := by omega
        simp [h1, h2]
theorem bitsP_back (s : Nat) : ∀ k, k ≤ 32 → bitsP ((bitL s k).map mkB) 0 = some (s % 2 ^ k)
  | 0, _ => by simp [bitL, bitsP, Nat.mod_one]
  | k + 1, hk => by
    rw [bitL_succ, List.map_append, bitsP_append, bitsP_back s k (by omega), Option.bind_some, mod_succ]
    by_cases hb : s.testBit k = true
    · rw [if_pos hb, if_pos hb, List.map_singleton, bitsP]
      have hp : readP (decL (clampN (k : Int))) = ((k : Int), 0) := readP_ok (by omega) (by omega)
      unfold bitP
      rw [mkB_bytes, hp, if_pos ⟨rfl, by show (k : Int) ≤ 31; omega, by
        show (s % 2 ^ k).testBit ((k : Int)).toNat = false
        rw [Int.toNat_natCast, Nat.testBit_mod_two_pow]; simp⟩]
      rfl
    · rw [if_neg hb, if_neg hb]; rfl
end Go.Proofs.Ytoepkhkaifgddaa

namespace Go.Proofs.Ytoepkhkaifgddaa
open Go.RowKit

theorem polW_back {p : Int} (h : 1 ≤ p ∧ p ≤ 3) : Fine (polW p) ∧ wordP polW (mkB (polW p)) = p := by
  have : p = 1 ∨ p = 2 ∨ p = 3 := by omega
  rcases this with rfl | rfl | rfl <;> exact ⟨⟨by decide, by decide⟩, by unfold wordP; rw [mkB_bytes]; decide⟩
theorem proW_back {p : Int} (h : 1 ≤ p ∧ p ≤ 3) : Fine (proW p) ∧ wordP proW (mkB (proW p)) = p := by
  have : p = 1 ∨ p = 2 ∨ p = 3 := by omega
  rcases this with rfl | rfl | rfl <;> exact ⟨⟨by decide, by decide⟩, by unfold wordP; rw [mkB_bytes]; decide⟩
def resLn (n : Int) : List (List UInt8) := [wRes, decL (clampN n)]
def taskLn (t : Tsk) : List (List UInt8) := wTask :: decL (clampN t.per) :: decL (clampN t.ded) :: decL (clampN t.cost) :: pairL 58 0 t.lon
def modeLn (m : Mdd) : List (List UInt8) := wMode :: bitL m.set 32
def queLn (q : Que) : List (List UInt8) := [wQueue, decL (clampN q.cap), polW q.pol]
def edgeLn (e : Edg) : List (List UInt8) := wEdge :: decL (clampN e.frm) :: decL (clampN e.to) :: proW e.prot :: (pairL 62 0 e.mp ++ pairL 58 0 e.offs)
/-- A line of its pieces. -/
def lineOf : List (List UInt8) → List UInt8
  | [] => []
  | p :: ps => joinP p ps
def linesI (x : Img) : List (List (List UInt8)) := resLn x.res :: (x.tasks.map taskLn ++ (x.modes.flatMap (fun m => modeLn m :: m.qs.map queLn) ++ x.edges.map edgeLn))
theorem joinL_append (a b : List (List UInt8)) : joinL (a ++ b) = joinL a ++ joinL b := by unfold joinL; rw [List.flatMap_append]
theorem joinL_map {α : Type} {f : α → List (List UInt8)} {g : α → List UInt8} (h : ∀ a, g a = lineOf (f a) ++ [10]) : ∀ l : List α, joinL ((l.map f).map lineOf) = l.flatMap g
  | [] => rfl
  | a :: l => by
    have ih := joinL_map h l
    unfold joinL at ih ⊢
    rw [List.map_cons, List.map_cons, List.flatMap_cons, List.flatMap_cons, ih, h a]
theorem taskT_line (t : Tsk) : taskT pairsT t = lineOf (taskLn t) ++ [10] := by
  unfold taskT taskLn lineOf joinP
  rw [pairsT_pieces]
  simp [wTask]
theorem queT_line (q : Que) : queT q = lineOf (queLn q) ++ [10] := by
  unfold queT queLn lineOf joinP
  simp [wQueue]
theorem edgeT_line (e : Edg) : edgeT pairsT e = lineOf (edgeLn e) ++ [10] := by
  unfold edgeT edgeLn lineOf joinP
  rw [pairsT_pieces, pairsT_pieces]
  simp [wEdge]
theorem modeT_line (m : Mdd) : modeT m = joinL ((modeLn m :: m.qs.map queLn).map lineOf) := by
  unfold modeT
  rw [List.map_cons, show joinL (lineOf (modeLn m) :: (m.qs.map queLn).map lineOf) = (lineOf (modeLn m) ++ [10]) ++ joinL ((m.qs.map queLn).map lineOf) from rfl, joinL_map queT_line, bitsT_pieces]
  unfold modeLn lineOf joinP
  simp [wMode]
theorem modesT_lines : ∀ l : List Mdd, joinL ((l.flatMap (fun m => modeLn m :: m.qs.map queLn)).map lineOf) = l.flatMap modeT
  | [] => rfl
  | m :: l => by
    rw [List.flatMap_cons, List.flatMap_cons, List.map_append, joinL_append, modesT_lines l, modeT_line]
theorem printT_lines (x : Img) : printT pairsT x = joinL ((linesI x).map lineOf) := by
  unfold linesI printT
  rw [List.map_cons, List.map_append, List.map_append, show ∀ (a : List UInt8) (l : List (List UInt8)), joinL (a :: l) = (a ++ [10]) ++ joinL l from fun _ _ => rfl, joinL_append, joinL_append, joinL_map taskT_line, joinL_map edgeT_line, modesT_lines]
  unfold resLn lineOf joinP
  simp [wRes]

theorem numP_at {ps : List ByteArray} {i : Nat} {n : Int} (h : ps[i]? = some (mkB (decL (clampN n)))) (h0 : 0 ≤ n) (h1 : n ≤ 2147483647) : numP ps i = some n := by
  unfold numP
  rw [h]
  simp only [mkB_bytes, readP_ok h0 h1]
  rfl
theorem res_back (n : Int) (h0 : 0 ≤ n) (h1 : n ≤ 2147483647) : lineP img0 ((resLn n).map mkB) true = some ⟨n, [], [], []⟩ := by
  unfold lineP resLn
  simp only [List.map_cons, List.map_nil, List.getD_cons_zero, mkB_bytes]
  rw [if_neg (by decide), if_pos trivial]
  unfold resP
  rw [if_pos (by simp), numP_at (n := n) rfl h0 h1]
  rfl
theorem task_back (x : Img) (t : Tsk) (h1 : 1 ≤ t.per ∧ t.per ≤ 4096) (h2 : 1 ≤ t.ded ∧ t.ded ≤ t.per) (h3 : 1 ≤ t.cost ∧ t.cost ≤ t.ded) (h4 : ∀ n ∈ t.lon, 0 ≤ n ∧ n ≤ 4096) (h5 : t.lon.length = 8) :
    lineP x ((taskLn t).map mkB) false = some { x with tasks := x.tasks ++ [t] } := by
  have hp := pairsP_back 58 (by decide) (fun n b hb => (decL_clean n b hb).2.2.2.1) t.lon [] (fun n hn => by have := h4 n hn; omega) (by simp; omega)
  rw [h5] at hp
  unfold lineP taskLn
  simp only [List.map_cons, List.getD_cons_zero, mkB_bytes]
  rw [if_neg (by decide), if_neg (by decide), if_pos trivial]
  unfold taskP
  rw [numP_at (n := t.per) rfl (by omega) (by omega), numP_at (n := t.ded) rfl (by omega) (by omega), numP_at (n := t.cost) rfl (by omega) (by omega)]
  simp only [Option.bind_some, List.drop_succ_cons, List.drop_zero]
  have hp' : pairsP 58 ((pairL 58 0 t.lon).map mkB) (List.replicate 8 0) = some t.lon := hp
  rw [hp']
  rfl
theorem mode_back (x : Img) (m : Mdd) (h : m.set < 4294967296) : lineP x ((modeLn m).map mkB) false = some { x with modes := x.modes ++ [⟨m.set, []⟩] } := by
  unfold lineP modeLn
  simp only [List.map_cons, List.getD_cons_zero, mkB_bytes]
  rw [if_neg (by decide), if_neg (by decide), if_neg (by decide), if_pos trivial, List.drop_succ_cons, List.drop_zero, bitsP_back m.set 32 (by decide), Nat.mod_eq_of_lt (by simpa using h)]
  rfl
theorem que_back (x : Img) (q : Que) (l : List Mdd) (m : Mdd) (hx : x.modes = l ++ [m]) (h1 : 1 ≤ q.cap ∧ q.cap ≤ 16) (h2 : 1 ≤ q.pol ∧ q.pol ≤ 3) :
    lineP x ((queLn q).map mkB) false = some { x with modes := l ++ [⟨m.set, m.qs ++ [q]⟩] } := by
  unfold lineP queLn
  simp only [List.map_cons, List.map_nil, List.getD_cons_zero, mkB_bytes]
  rw [if_neg (by decide), if_neg (by decide), if_neg (by decide), if_neg (by decide), if_pos trivial, if_neg (by rw [hx]; simp)]
  unfold queueP
  have e : wordP polW (([mkB wQueue, mkB (decL (clampN q.cap)), mkB (polW q.pol)] : List ByteArray).getD 2 { data := #[] }) = q.pol := (polW_back h2).2
  rw [e, if_pos ⟨rfl, by omega⟩, numP_at (n := q.cap) rfl (by omega) (by omega), hx]
  simp only [Option.map_some, addQ_eq]
theorem edge_back (x : Img) (e : Edg) (h1 : 0 ≤ e.frm ∧ e.frm ≤ 100) (h2 : 0 ≤ e.to ∧ e.to ≤ 100) (h3 : 1 ≤ e.prot ∧ e.prot ≤ 3) (h4 : ∀ n ∈ e.mp, 0 ≤ n ∧ n ≤ 16384) (h5 : ∀ n ∈ e.offs, 0 ≤ n ∧ n ≤ 16384) (h6 : e.offs.length = 16 ∧ e.mp.length = 4) :
    lineP x ((edgeLn e).map mkB) false = some { x with edges := x.edges ++ [e] } := by
  have hp := edgePairs_map e.mp [] (List.replicate 16 0) ((pairL 58 0 e.offs).map mkB) (fun n hn => by have := h4 n hn; omega) (by simp; omega)
  have hq := edgePairs_offs e.offs [] e.mp (fun n hn => by have := h5 n hn; omega) (by simp; omega)
  rw [h6.2] at hp
  rw [h6.1] at hq
  have hpq : edgePairs ((pairL 62 0 e.mp ++ pairL 58 0 e.offs).map mkB) (List.replicate 4 0) (List.replicate 16 0) = some (e.mp, e.offs) := by
    rw [List.map_append]
    exact hp.trans hq
  unfold lineP edgeLn
  simp only [List.map_cons, List.getD_cons_zero, mkB_bytes]
  rw [if_neg (by decide), if_neg (by decide), if_neg (by decide), if_neg (by decide), if_neg (by decide), if_pos trivial]
  unfold edgeP
  have ew : wordP proW ((mkB wEdge :: mkB (decL (clampN e.frm)) :: mkB (decL (clampN e.to)) :: mkB (proW e.prot) :: (pairL 62 0 e.mp ++ pairL 58 0 e.offs).map mkB).getD 3 { data := #[] }) = e.prot := (proW_back h3).2
  rw [numP_at (n := e.frm) rfl (by omega) (by omega), numP_at (n := e.to) rfl (by omega) (by omega)]
  simp only [Option.bind_some, ew, List.drop_succ_cons, List.drop_zero]
  rw [if_pos ⟨by simp, by omega⟩, hpq]
  rfl
/-- Lines that lead from an image to another one. -/
def Steps (x : Img) (ls : List (List (List UInt8))) (y : Img) : Prop := ∀ k, srFold (x, false) (number k ((ls.map lineOf).map mkB)) = .ok (y, false)
def FineLn (l : List (List UInt8)) : Prop := l ≠ [] ∧ ∀ q ∈ l, Fine q
theorem FineLn.line {l : List (List UInt8)} (h : FineLn l) : CleanL (lineOf l) ∧ piecesOf (mkB (lineOf l)) = l.map mkB := by
  cases l with
  | nil => exact absurd rfl h.1
  | cons p ps => exact joinP_line (h.2 p (by simp)) (fun q hq => h.2 q (by simp [hq]))
theorem srStep_line {x y : Img} {f : Bool} {l : List (List UInt8)} (hf : FineLn l) (k : Int) (h : lineP x (l.map mkB) f = some y) : srStep (x, f) (k, mkB (lineOf l)) = .ok (y, false) := by
  unfold srStep
  dsimp only
  rw [hf.line.2, if_neg (by simpa using hf.1), h]
theorem Steps.cons {x y z : Img} {l : List (List UInt8)} {ls : List (List (List UInt8))} (hf : FineLn l) (h : lineP x (l.map mkB) false = some y) (hs : Steps y ls z) : Steps x (l :: ls) z := fun k => by
  rw [List.map_cons, List.map_cons, number, srFold, srStep_line hf _ h]
  exact hs (k + 1)
theorem wRes_fine : Fine wRes := ⟨by decide, by decide⟩
theorem wTask_fine : Fine wTask := ⟨by decide, by decide⟩
theorem wMode_fine : Fine wMode := ⟨by decide, by decide⟩
theorem wQueue_fine : Fine wQueue := ⟨by decide, by decide⟩
theorem wEdge_fine : Fine wEdge := ⟨by decide, by decide⟩
theorem pairL_fine {sg : UInt8} (h : sg ≠ 32 ∧ sg ≠ 10 ∧ sg ≠ 35) (l : List Int) (i : Nat) : ∀ q ∈ pairL sg i l, Fine q := fun q hq => by
  obtain ⟨k, n, rfl⟩ := pairL_mem l i q hq
  exact pairW_fine h k n
theorem taskLn_fine (t : Tsk) : FineLn (taskLn t) := by
  refine ⟨by simp [taskLn], fun q hq => ?_⟩
  unfold taskLn at hq
  simp only [List.mem_cons] at hq
  rcases hq with rfl | rfl | rfl | rfl | hq
  · exact wTask_fine
  · exact decL_fine _
  · exact decL_fine _
  · exact decL_fine _
  · exact pairL_fine (by decide) _ _ q hq
theorem modeLn_fine (m : Mdd) : FineLn (modeLn m) := by
  refine ⟨by simp [modeLn], fun q hq => ?_⟩
  unfold modeLn at hq
  rcases List.mem_cons.1 hq with rfl | hq
  · exact wMode_fine
  · exact bitL_fine _ _ q hq
theorem queLn_fine {q : Que} (h : 1 ≤ q.pol ∧ q.pol ≤ 3) : FineLn (queLn q) := by
  refine ⟨by simp [queLn], fun p hp => ?_⟩
  unfold queLn at hp
  simp only [List.mem_cons, List.not_mem_nil, or_false] at hp
  rcases hp with rfl | rfl | rfl
  · exact wQueue_fine
  · exact decL_fine _
  · exact (polW_back h).1
theorem edgeLn_fine {e : Edg} (h : 1 ≤ e.prot ∧ e.prot ≤ 3) : FineLn (edgeLn e) := by
  refine ⟨by simp [edgeLn], fun p hp => ?_⟩
  unfold edgeLn at hp
  simp only [List.mem_cons, List.mem_append] at hp
  rcases hp with rfl | rfl | rfl | rfl | hp | hp
  · exact wEdge_fine
  · exact decL_fine _
  · exact decL_fine _
  · exact (proW_back h).1
  · exact pairL_fine (by decide) _ _ p hp
  · exact pairL_fine (by decide) _ _ p hp
theorem resLn_fine (n : Int) : FineLn (resLn n) := by
  refine ⟨by simp [resLn], fun p hp => ?_⟩
  unfold resLn at hp
  simp only [List.mem_cons, List.not_mem_nil, or_false] at hp
  rcases hp with rfl | rfl
  · exact wRes_fine
  · exact decL_fine _
theorem tasks_steps : ∀ (ts : List Tsk) (x z : Img) (rest : List (List (List UInt8))),
    (∀ t ∈ ts, ((1 ≤ t.per ∧ t.per ≤ 4096) ∧ (1 ≤ t.ded ∧ t.ded ≤ t.per) ∧ (1 ≤ t.cost ∧ t.cost ≤ t.ded) ∧ ∀ n ∈ t.lon, 0 ≤ n ∧ n ≤ 4096) ∧ t.lon.length = 8) →
    Steps { x with tasks := x.tasks ++ ts } rest z → Steps x (ts.map taskLn ++ rest) z
  | [], x, z, rest, _, h => by simpa using h
  | t :: ts, x, z, rest, ht, h => by
    obtain ⟨⟨h1, h2, h3, h4⟩, h5⟩ := ht t (by simp)
    rw [List.map_cons, List.cons_append]
    refine Steps.cons (taskLn_fine t) (task_back x t h1 h2 h3 h4 h5) (tasks_steps ts _ z rest (fun s hs => ht s (by simp [hs])) ?_)
    simpa using h
theorem ques_steps : ∀ (qs : List Que) (x z : Img) (rest : List (List (List UInt8))) (l : List Mdd) (m : Mdd), x.modes = l ++ [m] → (∀ q ∈ qs, (1 ≤ q.cap ∧ q.cap ≤ 16) ∧ 1 ≤ q.pol ∧ q.pol ≤ 3) →
    Steps { x with modes := l ++ [⟨m.set, m.qs ++ qs⟩] } rest z → Steps x (qs.map queLn ++ rest) z
  | [], x, z, rest, l, m, hx, _, h => by
    rw [List.append_nil] at h
    have : ({ x with modes := l ++ [⟨m.set, m.qs⟩] } : Img) = x := by rw [← hx]
    rw [this] at h
    exact h
  | q :: qs, x, z, rest, l, m, hx, hq, h => by
    obtain ⟨h1, h2⟩ := hq q (by simp)
    rw [List.map_cons, List.cons_append]
    refine Steps.cons (queLn_fine h2) (que_back x q l m hx h1 h2) (ques_steps qs _ z rest l _ rfl (fun s hs => hq s (by simp [hs])) ?_)
    simpa using h
theorem modes_steps : ∀ (ms : List Mdd) (x z : Img) (rest : List (List (List UInt8))), (∀ m ∈ ms, m.set < 4294967296 ∧ ∀ q ∈ m.qs, (1 ≤ q.cap ∧ q.cap ≤ 16) ∧ 1 ≤ q.pol ∧ q.pol ≤ 3) →
    Steps { x with modes := x.modes ++ ms } rest z → Steps x (ms.flatMap (fun m => modeLn m :: m.qs.map queLn) ++ rest) z
  | [], x, z, rest, _, h => by simpa using h
  | m :: ms, x, z, rest, hm, h => by
    obtain ⟨h1, h2⟩ := hm m (by simp)
    rw [List.flatMap_cons, List.append_assoc, List.cons_append]
    refine Steps.cons (modeLn_fine m) (mode_back x m h1) (ques_steps m.qs _ z _ x.modes ⟨m.set, []⟩ rfl h2 (modes_steps ms _ z rest (fun s hs => hm s (by simp [hs])) ?_))
    simpa using h
theorem edges_steps : ∀ (es : List Edg) (x z : Img) (rest : List (List (List UInt8))),
    (∀ e ∈ es, (0 ≤ e.frm ∧ e.frm ≤ 100) ∧ (0 ≤ e.to ∧ e.to ≤ 100) ∧ (1 ≤ e.prot ∧ e.prot ≤ 3) ∧ (∀ n ∈ e.mp, 0 ≤ n ∧ n ≤ 16384) ∧ (∀ n ∈ e.offs, 0 ≤ n ∧ n ≤ 16384) ∧ e.offs.length = 16 ∧ e.mp.length = 4) →
    Steps { x with edges := x.edges ++ es } rest z → Steps x (es.map edgeLn ++ rest) z
  | [], x, z, rest, _, h => by simpa using h
  | e :: es, x, z, rest, he, h => by
    obtain ⟨h1, h2, h3, h4, h5, h6⟩ := he e (by simp)
    rw [List.map_cons, List.cons_append]
    refine Steps.cons (edgeLn_fine h3) (edge_back x e h1 h2 h3 h4 h5 h6) (edges_steps es _ z rest (fun s hs => he s (by simp [hs])) ?_)
    simpa using h
theorem RightI.queIn {x : Img} (h : RightI x) {m : Mdd} (hm : m ∈ x.modes) : m.qs.length ≤ 4 ∧ ∀ q ∈ m.qs, (1 ≤ q.cap ∧ q.cap ≤ 16) ∧ 1 ≤ q.pol ∧ q.pol ≤ 3 := by
  have h3 := (h.mode m hm).2
  unfold quesOk at h3
  simp only [Bool.and_eq_true, decide_eq_true_eq] at h3
  refine ⟨h3.1, fun q hq => ?_⟩
  have := List.all_eq_true.1 h3.2 q hq
  unfold queOk at this
  simp only [Bool.and_eq_true, inR_iff] at this
  exact this
theorem RightI.size {x : Img} (h : RightI x) (ho : x.Ok) : (printT pairsT x).length ≤ 65536 := by
  have h1 := flatT_len2 (taskT pairsT) 300 x.tasks (fun t ht => taskT_len pairsT_le (ho.lon t ht))
  have h2 := flatT_len2 modeT 1000 x.modes (fun m hm => modeT_len (by have := (h.queIn hm).1; omega))
  have h3 := flatT_len2 (edgeT pairsT) 600 x.edges (fun e he => edgeT_len pairsT_le (ho.offs e he) (ho.mp e he))
  have h4 := decL_len10 x.res
  have := h.nt
  have := h.nm
  have := h.ne
  unfold printT
  simp only [List.length_append, List.length_cons, List.length_nil]
  have : x.tasks.length * 300 ≤ 16 * 300 := Nat.mul_le_mul_right _ (by omega)
  have : x.modes.length * 1000 ≤ 8 * 1000 := Nat.mul_le_mul_right _ (by omega)
  have : x.edges.length * 600 ≤ 24 * 600 := Nat.mul_le_mul_right _ (by omega)
  omega
/-- What is printed of an image that may be is parsed as it was. -/
theorem src_back {x : Img} (h : RightI x) (ho : x.Ok) : srcP (mkB (printT pairsT x)) = (x, 0, 0) := by
  have hfine : ∀ l ∈ linesI x, FineLn l := fun l hl => by
    unfold linesI at hl
    simp only [List.mem_cons, List.mem_append, List.mem_map, List.mem_flatMap] at hl
    rcases hl with rfl | ⟨t, _, rfl⟩ | ⟨m, hm, hl⟩ | ⟨e, he, rfl⟩
    · exact resLn_fine _
    · exact taskLn_fine t
    · rcases hl with rfl | ⟨q, hq, rfl⟩
      · exact modeLn_fine m
      · exact queLn_fine ((h.queIn hm).2 q hq).2
    · obtain ⟨k, hk, rfl⟩ := List.getElem_of_mem he
      exact edgeLn_fine (h.edgeIn k hk).2.2
  have hs : Steps ⟨x.res, [], [], []⟩ (x.tasks.map taskLn ++ (x.modes.flatMap (fun m => modeLn m :: m.qs.map queLn) ++ x.edges.map edgeLn)) x := by
    refine tasks_steps _ _ _ _ (fun t ht => ⟨h.taskIn ht, ho.lon t ht⟩) (modes_steps _ _ _ _ (fun m hm => ⟨ho.set m hm, (h.queIn hm).2⟩) ?_)
    have := edges_steps x.edges ⟨x.res, x.tasks, x.modes, []⟩ x [] (fun e he => by
      obtain ⟨k, hk, rfl⟩ := List.getElem_of_mem he
      have h1 := h.edgeIn k hk
      have h2 := h.pairsIn he
      have := h.nm
      exact ⟨by omega, by omega, h1.2.2, h2.1, h2.2, ho.offs _ he, ho.mp _ he⟩) (fun k => rfl)
    rw [List.append_nil] at this
    exact this
  unfold srcP
  rw [if_neg (by rw [mkB_size]; have := h.size ho; omega), printT_lines, lines_of _ (fun l hl => by
    obtain ⟨q, hq, rfl⟩ := List.mem_map.1 hl
    exact (hfine q hq).line.1)]
  have h0 : srFold (img0, true) (number 1 (((linesI x).map lineOf).map mkB)) = .ok (x, false) := by
    unfold linesI
    have hr := h.res
    rw [List.map_cons, List.map_cons, number, srFold, srStep_line (resLn_fine x.res) _ (res_back x.res hr.1 (by omega))]
    exact hs 2
  rw [h0]
end Go.Proofs.Ytoepkhkaifgddaa
