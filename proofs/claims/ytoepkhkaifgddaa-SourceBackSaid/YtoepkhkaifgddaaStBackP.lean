/- What is written of right steps is read as it was: plain, no program in sight. Condition: the steps' words are words. -/
import Derived.Test.YtoepkhkaifgddaaStReadEq
import Derived.Test.YtoepkhkaifgddaaStText
namespace Go.Proofs.Ytoepkhkaifgddaa
open Go.RowKit

def mkB (l : List UInt8) : ByteArray := { data := l.toArray }
theorem mkB_bytes (l : List UInt8) : bytesOf (mkB l) = l := by simp [mkB, bytesOf]
theorem mkB_size (l : List UInt8) : (mkB l).size = l.length := by simp [mkB, ByteArray.size]
theorem bytes_mk (s : ByteArray) : mkB (bytesOf s) = s := by simp [mkB, bytesOf]
theorem mkB_get {l : List UInt8} {i : Nat} (h : i < (mkB l).size) : (mkB l)[i] = l[i]'(by rw [mkB_size] at h; exact h) := by
  rw [ByteArray.getElem_eq_getElem_data]; simp [mkB]
theorem mkB_ext (l : List UInt8) (a b : Nat) : (mkB l).extract a b = mkB ((l.drop a).take (b - a)) := by
  apply ByteArray.ext
  rw [ByteArray.data_extract]
  unfold mkB
  simp [List.extract_eq_take_drop]

/-- Pieces, one blank ahead of each but the first. -/
def joinP (p : List UInt8) (ps : List (List UInt8)) : List UInt8 := p ++ ps.flatMap (fun q => 32 :: q)
def Clean (p : List UInt8) : Prop := p ≠ [] ∧ ∀ b ∈ p, b ≠ 32
theorem scan_piece {s : ByteArray} {i : Nat} (hf : (scan s i).2 = none) : ∀ m, (∀ j, j < m + 1 → isBlank s (i + j) = false) → scan s (i + (m + 1)) = ((scan s i).1, some i)
  | 0, h => scan_char_none (h 0 (by omega)) hf
  | m + 1, h => by
    have ih := scan_piece hf m (fun j hj => h j (by omega))
    have hs : (scan s (i + (m + 1))).2 = some i := by rw [ih]
    rw [show i + (m + 1 + 1) = (i + (m + 1)) + 1 by omega, scan_char_some (h (m + 1) (by omega)) hs, ih]
theorem pieces_join : ∀ (ps : List (List UInt8)) (p pre : List UInt8), Clean p → (∀ q ∈ ps, Clean q) → (scan (mkB (pre ++ joinP p ps)) pre.length).2 = none →
    piecesOf (mkB (pre ++ joinP p ps)) = (scan (mkB (pre ++ joinP p ps)) pre.length).1 ++ (p :: ps).map mkB := by
  intro ps
  induction ps with
  | nil =>
    intro p pre hp _ hf
    obtain ⟨m, hm⟩ : ∃ m, p.length = m + 1 := ⟨p.length - 1, by have := List.length_pos_iff.2 hp.1; omega⟩
    generalize hS : mkB (pre ++ joinP p []) = S at *
    have hz : S.size = pre.length + (m + 1) := by rw [← hS, mkB_size]; simp [joinP, hm]
    have hsc := scan_piece hf m (fun j hj => by
      have h1 : pre.length + j < S.size := by omega
      unfold isBlank
      rw [dif_pos h1]
      subst hS
      rw [mkB_get, beq_eq_false_iff_ne]
      simp only [joinP, List.flatMap_nil, List.append_nil]
      rw [List.getElem_append_right (by omega)]
      exact hp.2 _ (List.getElem_mem _))
    unfold piecesOf
    rw [hz]
    have hb : isBlank S (pre.length + (m + 1)) = true := by rw [← hz]; exact isBlank_end S
    rw [scan_blank_some hb (by rw [hsc]), hsc]
    congr 1
    rw [← hS, mkB_ext]
    simp [joinP, ← hm]
  | cons q r ih =>
    intro p pre hp hq hf
    obtain ⟨m, hm⟩ : ∃ m, p.length = m + 1 := ⟨p.length - 1, by have := List.length_pos_iff.2 hp.1; omega⟩
    have he : pre ++ joinP p (q :: r) = (pre ++ p ++ [32]) ++ joinP q r := by simp [joinP]
    have hih := ih q (pre ++ p ++ [32]) (hq q (by simp)) (fun x hx => hq x (by simp [hx]))
    rw [← he] at hih
    generalize hS : mkB (pre ++ joinP p (q :: r)) = S at *
    have hz : S.size = pre.length + (m + 1) + 1 + (joinP q r).length := by rw [← hS, mkB_size, he]; simp [hm]; omega
    have hsc := scan_piece hf m (fun j hj => by
      have h1 : pre.length + j < S.size := by omega
      unfold isBlank
      rw [dif_pos h1]
      subst hS
      rw [mkB_get, beq_eq_false_iff_ne]
      simp only [joinP]
      rw [List.getElem_append_right (by omega), List.getElem_append_left (by omega)]
      exact hp.2 _ (List.getElem_mem _))
    have hb : isBlank S (pre.length + (m + 1)) = true := by
      have h1 : pre.length + (m + 1) < S.size := by omega
      unfold isBlank
      rw [dif_pos h1]
      subst hS
      rw [mkB_get, beq_iff_eq]
      simp only [joinP]
      rw [List.getElem_append_right (by omega), List.getElem_append_right (by omega)]
      simp [hm]
    have hsn := scan_blank_some hb (by rw [hsc])
    rw [hsc] at hsn
    have hl : (pre ++ p ++ [32]).length = pre.length + (m + 1) + 1 := by simp [hm]; omega
    rw [hl] at hih
    rw [hih (by rw [hsn]), hsn]
    have hx : S.extract pre.length (pre.length + (m + 1)) = mkB p := by
      rw [← hS, mkB_ext]
      simp [joinP, ← hm]
    rw [hx]
    simp
theorem pieces_of (p : List UInt8) (ps : List (List UInt8)) (hp : Clean p) (hq : ∀ q ∈ ps, Clean q) : piecesOf (mkB (joinP p ps)) = (p :: ps).map mkB := by
  have := pieces_join ps p [] hp hq rfl
  simpa [scan] using this

/-- Lines, each with its end. -/
def joinL (ls : List (List UInt8)) : List UInt8 := ls.flatMap (fun l => l ++ [10])
def CleanL (l : List UInt8) : Prop := ∀ b ∈ l, b ≠ 10 ∧ b ≠ 35
theorem lines_of : ∀ ls : List (List UInt8), (∀ l ∈ ls, CleanL l) → linesT (mkB (joinL ls)) = ls.map mkB
  | [], _ => by
    rw [linesT_nil (by rw [mkB_size]; rfl)]; rfl
  | l :: r, h => by
    have hc := h l (by simp)
    have he : joinL (l :: r) = l ++ 10 :: joinL r := by simp [joinL]
    have hz : (mkB (joinL (l :: r))).size = l.length + (1 + (joinL r).length) := by rw [mkB_size, he]; simp; omega
    have hn : endOf isNl (mkB (joinL (l :: r))) 0 = l.length := by
      refine endOf_eq (Nat.zero_le _) (by omega) (.inr ⟨by omega, ?_⟩) (fun j _ hj => ?_)
      · rw [mkB_get]
        simp only [he]
        rw [List.getElem_append_right (by omega)]
        simp [isNl]
      · rw [mkB_get]
        simp only [he]
        rw [List.getElem_append_left hj]
        unfold isNl
        rw [beq_eq_false_iff_ne]
        exact (hc _ (List.getElem_mem _)).1
    have hcut : cutNl (mkB (joinL (l :: r))) = mkB l := by
      unfold cutNl
      rw [hn, if_pos (by omega), mkB_ext, he]
      simp
    have hrest : restNl (mkB (joinL (l :: r))) = mkB (joinL r) := by
      unfold restNl
      rw [hn, if_pos (by omega), mkB_ext, he, mkB_size]
      congr 1
      rw [List.drop_append]
      simp
      rw [List.drop_eq_nil_of_le (by omega), List.nil_append, List.take_of_length_le (by omega)]
    have hh : cutHash (mkB l) = mkB l := by
      have : endOf isHash (mkB l) 0 = (mkB l).size := by
        refine endOf_eq (Nat.zero_le _) (Nat.le_refl _) (.inl rfl) (fun j _ hj => ?_)
        rw [mkB_get]
        unfold isHash
        rw [beq_eq_false_iff_ne]
        exact (hc _ (List.getElem_mem _)).2
      unfold cutHash
      rw [this, if_neg (by omega)]
    rw [linesT_cons (by omega), hcut, hrest, hh, lines_of r (fun x hx => h x (by simp [hx]))]
    rfl

/-- The pieces of a part of a step. -/
def secP (x : Sct) : List UInt8 := decL (clampN x.res) ++ 58 :: (decL (clampN x.frm) ++ 45 :: decL (clampN x.to))
def piecesT (s : Stp) (c : Int) : List (List UInt8) :=
  if c = 97 then [decL (clampN s.a)]
  else if c = 110 then [decL (clampN s.n)]
  else if c = 104 then [hexL s.n.toNat]
  else if c = 115 then s.secs.map secP
  else if c = 119 then s.words.map hexL
  else []
theorem partT_pieces (s : Stp) (c : Int) : partT s c = (piecesT s c).flatMap (fun q => 32 :: q) := by
  unfold partT piecesT
  split
  · simp
  · split
    · simp
    · split
      · simp [wordT]
      · split
        · rw [List.flatMap_map]; rfl
        · split
          · rw [List.flatMap_map]; rfl
          · rfl
theorem partsT_pieces (s : Stp) (p : ByteArray) (k : Nat) : partsT s p k = ((List.range k).flatMap (fun i => piecesT s (byteAt p i))).flatMap (fun q => 32 :: q) := by
  unfold partsT
  rw [List.flatMap_assoc]
  congr 1
  funext i
  exact partT_pieces s _

theorem dig_of {b : UInt8} (h : isDig b = true) : b ≠ 32 ∧ b ≠ 10 ∧ b ≠ 35 ∧ b ≠ 58 ∧ b ≠ 45 := by
  unfold isDig at h
  simp at h
  refine ⟨?_, ?_, ?_, ?_, ?_⟩ <;> rintro rfl <;> simp at h
theorem decL_clean (n : Nat) : ∀ b ∈ decL n, b ≠ 32 ∧ b ≠ 10 ∧ b ≠ 35 ∧ b ≠ 58 ∧ b ≠ 45 := fun b hb => dig_of (List.all_eq_true.1 (decL_dig n) b hb)
theorem fig_of {b : UInt8} (h : (figVal b).isSome = true) : b ≠ 32 ∧ b ≠ 10 ∧ b ≠ 35 := by
  refine ⟨?_, ?_, ?_⟩ <;> rintro rfl <;> revert h <;> decide
theorem hexL_clean (n : Nat) : ∀ b ∈ hexL n, b ≠ 32 ∧ b ≠ 10 ∧ b ≠ 35 := fun b hb => fig_of (by have := List.all_eq_true.1 (hexN_fig 8 n) b hb; simpa using this)
theorem secP_clean (x : Sct) : ∀ b ∈ secP x, b ≠ 32 ∧ b ≠ 10 ∧ b ≠ 35 := by
  intro b hb
  simp only [secP, List.mem_append, List.mem_cons] at hb
  rcases hb with h | rfl | h | rfl | h
  · have := decL_clean _ b h; exact ⟨this.1, this.2.1, this.2.2.1⟩
  · decide
  · have := decL_clean _ b h; exact ⟨this.1, this.2.1, this.2.2.1⟩
  · decide
  · have := decL_clean _ b h; exact ⟨this.1, this.2.1, this.2.2.1⟩
theorem secP_ne (x : Sct) : secP x ≠ [] := by
  unfold secP
  simp
theorem hexL_ne (n : Nat) : hexL n ≠ [] := by
  intro h
  have := hexL_len n
  rw [h] at this
  cases this
theorem piecesT_clean (s : Stp) (c : Int) : ∀ q ∈ piecesT s c, q ≠ [] ∧ ∀ b ∈ q, b ≠ 32 ∧ b ≠ 10 ∧ b ≠ 35 := by
  intro q hq
  have hd : ∀ n : Nat, decL n ≠ [] ∧ ∀ b ∈ decL n, b ≠ 32 ∧ b ≠ 10 ∧ b ≠ 35 := fun n => ⟨decL_ne n, fun b hb => by have := decL_clean n b hb; exact ⟨this.1, this.2.1, this.2.2.1⟩⟩
  unfold piecesT at hq
  split at hq
  · simp at hq; subst hq; exact hd _
  · split at hq
    · simp at hq; subst hq; exact hd _
    · split at hq
      · simp at hq; subst hq; exact ⟨hexL_ne _, hexL_clean _⟩
      · split at hq
        · obtain ⟨x, _, rfl⟩ := List.mem_map.1 hq; exact ⟨secP_ne x, secP_clean x⟩
        · split at hq
          · obtain ⟨x, _, rfl⟩ := List.mem_map.1 hq; exact ⟨hexL_ne _, hexL_clean _⟩
          · cases hq

theorem readP_num {n : Int} (h : numB n = true) : readP (decL (clampN n)) = (n, 0) := by
  unfold numB at h
  simp at h
  rw [readP_dec _ (clampN_le n)]
  unfold clampN
  congr 1
  omega
theorem idx_first (l r : List UInt8) (c : UInt8) (h : ∀ b ∈ l, b ≠ c) : Lib.indexByte (l ++ c :: r) c = (l.length : Int) := by
  induction l with
  | nil => simp [Lib.indexByte]
  | cons b l ih =>
    have hb : b ≠ c := h b (by simp)
    have ih := ih (fun x hx => h x (by simp [hx]))
    simp [Lib.indexByte, hb, ih]
theorem splitB_mk (l r : List UInt8) (c : Nat) (hc : c < 256) (h : ∀ b ∈ l, b ≠ c.toUInt8) : splitB (mkB (l ++ c.toUInt8 :: r)) (c : Int) = (mkB l, mkB r, true) := by
  have hi : idxB (mkB (l ++ c.toUInt8 :: r)) (c : Int) = (l.length : Int) := by
    unfold idxB
    have e : bytesOf (mkB (l ++ c.toUInt8 :: r)) = l ++ c.toUInt8 :: r := mkB_bytes _
    unfold bytesOf at e
    rw [e, Int.toNat_natCast]
    exact idx_first l r _ h
  unfold splitB
  rw [hi, if_pos (by omega), mkB_ext, mkB_ext, mkB_size]
  congr 1
  · simp
  · congr 2
    rw [Int.toNat_natCast, List.drop_append]
    simp
    rw [List.drop_eq_nil_of_le (by omega), List.nil_append, List.take_of_length_le (by omega)]
theorem sectP_back {x : Sct} (h : secB x = true) : sectP (mkB (secP x)) = (x, true) := by
  unfold secB at h
  simp only [Bool.and_eq_true] at h
  have e1 : splitB (mkB (secP x)) 58 = (mkB (decL (clampN x.res)), mkB (decL (clampN x.frm) ++ 45 :: decL (clampN x.to)), true) := splitB_mk _ _ 58 (by decide) (fun b hb => (decL_clean _ b hb).2.2.2.1)
  have e2 : splitB (mkB (decL (clampN x.frm) ++ 45 :: decL (clampN x.to))) 45 = (mkB (decL (clampN x.frm)), mkB (decL (clampN x.to)), true) := splitB_mk _ _ 45 (by decide) (fun b hb => (decL_clean _ b hb).2.2.2.2)
  unfold sectP
  simp only [e1, e2, mkB_bytes, readP_num h.1.1, readP_num h.1.2, readP_num h.2]
  rfl
theorem absorb_secs : ∀ (l : List Sct) (s : Stp), (∀ x ∈ l, secB x = true) → absorb s 115 ((l.map secP).map mkB) = some { s with secs := s.secs ++ l }
  | [], s, _ => by simp [absorb]
  | x :: l, s, h => by
    have e : partP s 115 (mkB (secP x)) = ({ s with secs := s.secs ++ [x] }, true) := by
      unfold partP
      rw [if_neg (by decide), if_neg (by decide), if_neg (by decide), if_pos rfl, sectP_back (h x (by simp))]
    rw [List.map_cons, List.map_cons, absorb, e, if_pos rfl, absorb_secs l _ (fun y hy => h y (by simp [hy]))]
    simp
theorem absorb_words : ∀ (l : List Nat) (s : Stp), (∀ x ∈ l, x < 4294967296) → absorb s 119 ((l.map hexL).map mkB) = some { s with words := s.words ++ l }
  | [], s, _ => by simp [absorb]
  | x :: l, s, h => by
    have e : partP s 119 (mkB (hexL x)) = ({ s with words := s.words ++ [x] }, true) := by
      unfold partP
      rw [if_neg (by decide), if_neg (by decide), if_neg (by decide), if_neg (by decide), mkB_bytes, readWP_hex x (h x (by simp))]
      rfl
    rw [List.map_cons, List.map_cons, absorb, e, if_pos rfl, absorb_words l _ (fun y hy => h y (by simp [hy]))]
    simp

section
variable (s0 : Stp) (cs : List Int) (rest : List ByteArray)
theorem pR_a {n : Int} (h : numB n = true) : partsR s0 (97 :: cs) (mkB (decL (clampN n)) :: rest) = partsR { s0 with a := n } cs rest := by
  rw [partsR, if_neg (by decide)]
  have e : partP s0 97 (mkB (decL (clampN n))) = ({ s0 with a := n }, true) := by
    unfold partP
    rw [if_pos rfl, mkB_bytes, readP_num h]; rfl
  rw [e, if_pos rfl]
theorem pR_n {n : Int} (h : numB n = true) : partsR s0 (110 :: cs) (mkB (decL (clampN n)) :: rest) = partsR { s0 with n := n } cs rest := by
  rw [partsR, if_neg (by decide)]
  have e : partP s0 110 (mkB (decL (clampN n))) = ({ s0 with n := n }, true) := by
    unfold partP
    rw [if_neg (by decide), if_pos rfl, mkB_bytes, readP_num h]; rfl
  rw [e, if_pos rfl]
theorem pR_h {n : Int} (h0 : 0 ≤ n) (h1 : n ≤ 4294967295) : partsR s0 (104 :: cs) (mkB (hexL n.toNat) :: rest) = partsR { s0 with n := n } cs rest := by
  rw [partsR, if_neg (by decide)]
  have e : partP s0 104 (mkB (hexL n.toNat)) = ({ s0 with n := n }, true) := by
    unfold partP
    rw [if_neg (by decide), if_neg (by decide), if_pos rfl, mkB_bytes, readWP_hex _ (by omega)]
    dsimp only
    rw [Int.toNat_of_nonneg h0]; rfl
  rw [e, if_pos rfl]
theorem pR_s {l : List Sct} (h : ∀ x ∈ l, secB x = true) : partsR s0 [115] ((l.map secP).map mkB) = some ({ s0 with secs := s0.secs ++ l }, true) := by
  rw [partsR.eq_def]
  dsimp only
  rw [if_pos (.inl rfl), absorb_secs l s0 h]; rfl
theorem pR_w {l : List Nat} (h : ∀ x ∈ l, x < 4294967296) : partsR s0 [119] ((l.map hexL).map mkB) = some ({ s0 with words := s0.words ++ l }, true) := by
  rw [partsR.eq_def]
  dsimp only
  rw [if_pos (.inr rfl), absorb_words l s0 h]; rfl
end
theorem stp_eq {s t : Stp} (h0 : s.kind = t.kind) (h1 : s.a = t.a) (h2 : s.n = t.n) (h3 : s.secs = t.secs) (h4 : s.words = t.words) : s = t := by
  cases s; cases t; simp at *; exact ⟨h0, h1, h2, h3, h4⟩
theorem parts_back (s : Stp) (L : List Int) (hL : L = [110] ∨ L = [97, 110, 115] ∨ L = [97] ∨ L = [97, 110] ∨ L = [104] ∨ L = [97, 104] ∨ L = [] ∨ L = [119]) (ha : numB s.a = true) (ha0 : (97 : Int) ∉ L → s.a = 0) (hn : (110 : Int) ∈ L → numB s.n = true)
    (hh : (104 : Int) ∈ L → 0 ≤ s.n ∧ s.n ≤ 4294967295) (hn0 : (110 : Int) ∉ L → (104 : Int) ∉ L → s.n = 0) (hs : ∀ x ∈ s.secs, secB x = true) (hs0 : (115 : Int) ∉ L → s.secs = []) (hw : WordsOk s) (hw0 : (119 : Int) ∉ L → s.words = []) :
    partsR { noStp with kind := s.kind } L ((L.flatMap (piecesT s)).map mkB) = some (s, true) := by
  rcases hL with rfl | rfl | rfl | rfl | rfl | rfl | rfl | rfl
  · have e : ([110] : List Int).flatMap (piecesT s) = [decL (clampN s.n)] := rfl
    rw [e, List.map_cons, List.map_nil, pR_n _ _ _ (hn (by decide)), partsR]
    exact congrArg some (Prod.ext (stp_eq rfl (ha0 (by decide)).symm rfl (hs0 (by decide)).symm (hw0 (by decide)).symm) rfl)
  · have e : ([97, 110, 115] : List Int).flatMap (piecesT s) = decL (clampN s.a) :: decL (clampN s.n) :: s.secs.map secP := by
      show [decL (clampN s.a)] ++ ([decL (clampN s.n)] ++ (s.secs.map secP ++ [])) = _
      simp
    rw [e, List.map_cons, List.map_cons, pR_a _ _ _ ha, pR_n _ _ _ (hn (by decide)), pR_s _ hs]
    exact congrArg some (Prod.ext (stp_eq rfl rfl rfl rfl (hw0 (by decide)).symm) rfl)
  · have e : ([97] : List Int).flatMap (piecesT s) = [decL (clampN s.a)] := rfl
    rw [e, List.map_cons, List.map_nil, pR_a _ _ _ ha, partsR]
    exact congrArg some (Prod.ext (stp_eq rfl rfl (hn0 (by decide) (by decide)).symm (hs0 (by decide)).symm (hw0 (by decide)).symm) rfl)
  · have e : ([97, 110] : List Int).flatMap (piecesT s) = [decL (clampN s.a), decL (clampN s.n)] := rfl
    rw [e, List.map_cons, List.map_cons, List.map_nil, pR_a _ _ _ ha, pR_n _ _ _ (hn (by decide)), partsR]
    exact congrArg some (Prod.ext (stp_eq rfl rfl rfl (hs0 (by decide)).symm (hw0 (by decide)).symm) rfl)
  · have e : ([104] : List Int).flatMap (piecesT s) = [hexL s.n.toNat] := rfl
    rw [e, List.map_cons, List.map_nil, pR_h _ _ _ (hh (by decide)).1 (hh (by decide)).2, partsR]
    exact congrArg some (Prod.ext (stp_eq rfl (ha0 (by decide)).symm rfl (hs0 (by decide)).symm (hw0 (by decide)).symm) rfl)
  · have e : ([97, 104] : List Int).flatMap (piecesT s) = [decL (clampN s.a), hexL s.n.toNat] := rfl
    rw [e, List.map_cons, List.map_cons, List.map_nil, pR_a _ _ _ ha, pR_h _ _ _ (hh (by decide)).1 (hh (by decide)).2, partsR]
    exact congrArg some (Prod.ext (stp_eq rfl rfl rfl (hs0 (by decide)).symm (hw0 (by decide)).symm) rfl)
  · rw [List.flatMap_nil, List.map_nil, partsR]
    exact congrArg some (Prod.ext (stp_eq rfl (ha0 (by decide)).symm (hn0 (by decide) (by decide)).symm (hs0 (by decide)).symm (hw0 (by decide)).symm) rfl)
  · have e : ([119] : List Int).flatMap (piecesT s) = s.words.map hexL := by
      show s.words.map hexL ++ [] = _
      simp
    rw [e, pR_w _ hw]
    exact congrArg some (Prod.ext (stp_eq rfl (ha0 (by decide)).symm (hn0 (by decide) (by decide)).symm (hs0 (by decide)).symm rfl) rfl)

/-- What is known of each kind. -/
structure KindOk (k : Int) : Prop where
  parts : partsL (shp k).2 = [110] ∨ partsL (shp k).2 = [97, 110, 115] ∨ partsL (shp k).2 = [97] ∨ partsL (shp k).2 = [97, 110] ∨ partsL (shp k).2 = [104] ∨ partsL (shp k).2 = [97, 104] ∨ partsL (shp k).2 = [] ∨ partsL (shp k).2 = [119]
  has : ∀ c, c = 97 ∨ c = 110 ∨ c = 104 ∨ c = 115 ∨ c = 119 → (hasB (shp k).2 c = true ↔ c ∈ partsL (shp k).2)
  kind : kindW (shp k).1 = k
  word : bytesOf (shp k).1 ≠ [] ∧ ∀ b ∈ bytesOf (shp k).1, b ≠ 32 ∧ b ≠ 10 ∧ b ≠ 35
theorem kind_ok {k : Int} (h : isKind k = true) : KindOk k := by
  have : k = 1 ∨ k = 2 ∨ k = 3 ∨ k = 4 ∨ k = 5 ∨ k = 6 ∨ k = 7 ∨ k = 8 ∨ k = 9 ∨ k = 10 ∨ k = 11 ∨ k = 12 ∨ k = 13 ∨ k = 14 ∨ k = 15 := by unfold isKind at h; simp at h; omega
  rcases this with rfl | rfl | rfl | rfl | rfl | rfl | rfl | rfl | rfl | rfl | rfl | rfl | rfl | rfl | rfl
  all_goals exact ⟨by decide +kernel, by rintro c (rfl | rfl | rfl | rfl | rfl) <;> decide +kernel, by decide +kernel, by decide +kernel⟩

theorem lineT_join {s : Stp} (hr : rightP s = true) : lineT s = joinP (bytesOf (shp s.kind).1) ((partsL (shp s.kind).2).flatMap (piecesT s)) := by
  unfold lineT joinP
  rw [if_pos hr, partsT_pieces]
  congr 2
  unfold partsL
  rw [List.flatMap_map]
/-- What is written of a right step is read as it was. -/
theorem read_back {s : Stp} (hr : rightP s = true) (hw : WordsOk s) : readS (mkB (lineT s)) = (s, true) := by
  have hj := lineT_join hr
  unfold rightP at hr
  simp only [Bool.and_eq_true, Bool.or_eq_true] at hr
  obtain ⟨⟨⟨⟨h1, h2⟩, h3⟩, h4, h5⟩, h6⟩ := hr
  obtain ⟨hp, hh, hk, hwd⟩ := kind_ok h1
  have hc : ∀ q ∈ (partsL (shp s.kind).2).flatMap (piecesT s), Clean q := fun q hq => by
    obtain ⟨c, _, hc2⟩ := List.mem_flatMap.1 hq
    have := piecesT_clean s c q hc2
    exact ⟨this.1, fun b hb => (this.2 b hb).1⟩
  rw [readS_eq]
  unfold readD
  rw [hj, pieces_of _ _ ⟨hwd.1, fun b hb => (hwd.2 b hb).1⟩ hc, List.map_cons]
  dsimp only
  rw [bytes_mk, hk]
  have hk0 : ¬ s.kind = 0 := by unfold isKind at h1; simp at h1; omega
  rw [if_neg hk0]
  have hsec := List.all_eq_true.1 h5
  rw [parts_back s _ hp h2 (fun h => ?_) (fun h => ?_) (fun h => ?_) (fun h h' => ?_) (fun x hx => ?_) (fun h => ?_) hw (fun h => ?_)]
  · rfl
  · rcases h3 with h3 | h3
    · simpa using h3
    · exact absurd ((hh 97 (by decide)).1 h3) h
  · unfold nOk at h4
    rw [if_pos ((hh 110 (by decide)).2 h)] at h4
    exact h4
  · have h7 : hasB (shp s.kind).2 110 = false := by
      rw [← Bool.not_eq_true, hh 110 (by decide)]
      rcases hp with e | e | e | e | e | e | e | e <;> rw [e] at h ⊢ <;> revert h <;> decide
    unfold nOk at h4
    rw [h7, (hh 104 (by decide)).2 h] at h4
    simpa using h4
  · have h7 : hasB (shp s.kind).2 110 = false := by rw [← Bool.not_eq_true, hh 110 (by decide)]; exact h
    have h8 : hasB (shp s.kind).2 104 = false := by rw [← Bool.not_eq_true, hh 104 (by decide)]; exact h'
    unfold nOk at h4
    rw [h7, h8] at h4
    simpa using h4
  · have := hsec x hx
    simp only [Bool.and_eq_true] at this
    exact this.2
  · cases hss : s.secs with
    | nil => rfl
    | cons x r =>
      have := hsec x (by rw [hss]; simp)
      simp only [Bool.and_eq_true] at this
      exact absurd ((hh 115 (by decide)).1 this.1) h
  · rcases h6 with h6 | h6
    · simpa using h6
    · exact absurd ((hh 119 (by decide)).1 h6) h
theorem lineT_clean {s : Stp} (hr : rightP s = true) : CleanL (lineT s) := by
  have hk : isKind s.kind = true := by
    unfold rightP at hr
    simp only [Bool.and_eq_true] at hr
    exact hr.1.1.1.1
  obtain ⟨_, _, _, hwd⟩ := kind_ok hk
  rw [lineT_join hr]
  intro b hb
  rcases List.mem_append.1 hb with hb | hb
  · exact (hwd.2 b hb).2
  · obtain ⟨q, hq, hb⟩ := List.mem_flatMap.1 hb
    obtain ⟨c, _, hc⟩ := List.mem_flatMap.1 hq
    rcases List.mem_cons.1 hb with rfl | hb
    · decide
    · exact ((piecesT_clean s c q hc).2 b hb).2
theorem lineT_pieces {s : Stp} (hr : rightP s = true) : piecesOf (mkB (lineT s)) ≠ [] := by
  have hk : isKind s.kind = true := by
    unfold rightP at hr
    simp only [Bool.and_eq_true] at hr
    exact hr.1.1.1.1
  obtain ⟨_, _, _, hwd⟩ := kind_ok hk
  rw [lineT_join hr, pieces_of _ _ ⟨hwd.1, fun b hb => (hwd.2 b hb).1⟩ (fun q hq => by
    obtain ⟨c, _, hc2⟩ := List.mem_flatMap.1 hq
    have := piecesT_clean s c q hc2
    exact ⟨this.1, fun b hb => (this.2 b hb).1⟩)]
  simp
/-- The text of steps, line by line. -/
theorem textF_some : ∀ (l : List Stp) (acc t : List UInt8), textF l acc = some t → (acc.length ≤ 65536 → t.length ≤ 65536) ∧ t = acc ++ joinL (l.map lineT) ∧ ∀ s ∈ l, rightP s = true
  | [], acc, t, h => by
    rw [textF] at h
    cases h
    exact ⟨id, by simp [joinL], fun s hs => by cases hs⟩
  | s :: r, acc, t, h => by
    rw [textF] at h
    split at h
    · cases h
    · rename_i hn
      have hn1 : lineT s ≠ [] := fun e => hn (.inl e)
      have hn2 : ¬ 65536 < acc.length + (lineT s).length + 1 := fun e => hn (.inr e)
      obtain ⟨h1, h2, h3⟩ := textF_some r _ t h
      refine ⟨fun _ => h1 (by simp; omega), by rw [h2]; simp [joinL], fun x hx => ?_⟩
      rcases List.mem_cons.1 hx with rfl | hx
      · cases hr : rightP x with
        | true => rfl
        | false => exact absurd (by unfold lineT; rw [hr]; rfl) hn1
      · exact h3 x hx
theorem psFold_back : ∀ (l acc : List Stp) (k : Nat), acc.length + l.length ≤ 512 → (∀ s ∈ l, rightP s = true ∧ WordsOk s) → psFold acc (number k ((l.map lineT).map mkB)) = .ok (acc ++ l)
  | [], acc, k, _, _ => by simp [number, psFold]
  | s :: r, acc, k, hl, h => by
    obtain ⟨hr, hw⟩ := h s (by simp)
    rw [List.map_cons, List.map_cons, number, psFold]
    have e : psStep acc ((k : Int), mkB (lineT s)) = .ok (acc ++ [s]) := by
      unfold psStep
      dsimp only
      rw [if_neg (lineT_pieces hr), read_back hr hw, if_pos ⟨rfl, by simp at hl; omega⟩]
    rw [e]
    show psFold _ _ = _
    rw [psFold_back r _ (k + 1) (by simp at hl ⊢; omega) (fun x hx => h x (by simp [hx]))]
    simp
/-- What is written is read as it was. -/
theorem text_back {l : List Stp} {t : List UInt8} (h : textS l = some t) (hw : ∀ s ∈ l, WordsOk s) : parseS (mkB t) = (l, 0, 0) := by
  unfold textS at h
  split at h
  · cases h
  · rename_i hl
    obtain ⟨h1, h2, h3⟩ := textF_some l [] t h
    have h4 := h1 (by decide)
    unfold parseS
    rw [if_neg (by rw [mkB_size]; omega), h2, List.nil_append, lines_of _ (fun x hx => by
      obtain ⟨s, hs, rfl⟩ := List.mem_map.1 hx
      exact lineT_clean (h3 s hs)), psFold_back l [] 1 (by simp; omega) (fun s hs => ⟨h3 s hs, hw s hs⟩)]
    rfl
/-- The steps that are read are no longer than their text. -/
theorem psFold_lens : ∀ (l : List NumStr) (acc m : List Stp) (n : Nat), (∀ s ∈ acc, s.secs.length ≤ n ∧ s.words.length ≤ n ∧ WordsOk s) → (∀ x ∈ l, x.2.size + 1 ≤ n) → psFold acc l = .ok m → ∀ s ∈ m, s.secs.length ≤ n ∧ s.words.length ≤ n ∧ WordsOk s
  | [], acc, m, n, h, _, he => by cases he; exact h
  | x :: l, acc, m, n, h, hx, he => by
    rw [psFold] at he
    cases hs : psStep acc x with
    | error e => rw [hs] at he; cases he
    | ok a =>
      rw [hs] at he
      refine psFold_lens l a m n (fun s hs' => ?_) (fun y hy => hx y (by simp [hy])) he
      unfold psStep at hs
      split at hs
      · cases hs; exact h s hs'
      · split at hs
        · cases hs
          rcases List.mem_append.1 hs' with h1 | h1
          · exact h s h1
          · simp at h1
            subst h1
            obtain ⟨q1, q2, q3⟩ := readS_ok x.2
            have := hx x (by simp)
            exact ⟨by omega, by omega, q3⟩
        · cases hs
theorem number_mem : ∀ (l : List ByteArray) (k : Nat) (x : NumStr), x ∈ number k l → x.2 ∈ l
  | [], _, x, h => by cases h
  | a :: l, k, x, h => by
    rw [number] at h
    rcases List.mem_cons.1 h with rfl | h
    · simp
    · exact List.mem_cons_of_mem _ (number_mem l (k + 1) x h)
theorem parseS_lens (S : ByteArray) : ∀ s ∈ (parseS S).1, s.secs.length ≤ S.size + 1 ∧ s.words.length ≤ S.size + 1 ∧ WordsOk s := by
  unfold parseS
  split
  · intro s hs; cases hs
  · split
    · rename_i l he
      refine psFold_lens _ [] l _ (fun s hs => by cases hs) (fun x hx => ?_) he
      have h1 := number_mem _ _ _ hx
      have h2 := linesS_eq S S.size 0
      rw [ByteArray.extract_zero_size] at h2
      unfold linesT at h1
      rw [h2] at h1
      have := linesK_size S _ _ _ h1
      omega
    · intro s hs; cases hs
theorem parseS_err (S : ByteArray) : (parseS S).2.2 = 0 ∨ ((parseS S).2.2 = 340 ∧ (parseS S).1 = []) := by
  unfold parseS
  split
  · exact .inr ⟨rfl, rfl⟩
  · split
    · exact .inl rfl
    · exact .inr ⟨rfl, rfl⟩
end Go.Proofs.Ytoepkhkaifgddaa
