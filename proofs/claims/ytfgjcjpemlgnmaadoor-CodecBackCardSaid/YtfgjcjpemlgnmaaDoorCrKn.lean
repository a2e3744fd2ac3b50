/- Images in hand, and codec's calls on them; what the document's Decode and the program's say is one. Condition: the table of math/bits lies where the program's text lays it. -/
import Derived.Test.YtfgjcjpemlgnmaaDoorCrDecD
import Derived.Test.YtfgjcjpemlgnmaaDoorImgRS
namespace Go.Proofs.YtfgjcjpemlgnmaaDoor
open Go.RowKit

theorem tsD_lon (l : List Int) (i : Nat) : ∀ n, ∀ t ∈ (tsD l i n).1, t.lon.length = 8
  | 0, _, h => by cases h
  | n + 1, t, h => by
    have e : (tsD l i (n + 1)).1 = (tsD l i n).1 ++ [(taskD l (tsD l i n).2).1] := rfl
    rw [e] at h
    rcases List.mem_append.1 h with h | h
    · exact tsD_lon l i n t h
    · simp at h; subst h; exact (taskD_le l _).1
theorem msD_set (l : List Int) (hl : ∀ n ∈ l, 0 ≤ n ∧ n < 4294967296) (i : Nat) : ∀ n, ∀ m ∈ (msD l i n).1, m.set < 4294967296
  | 0, _, h => by cases h
  | n + 1, t, h => by
    have e : (msD l i (n + 1)).1 = (msD l i n).1 ++ [(modeD l (msD l i n).2).1] := rfl
    rw [e] at h
    rcases List.mem_append.1 h with h | h
    · exact msD_set l hl i n t h
    · simp at h; subst h; exact (modeD_le l hl _).1
theorem esD_len (l : List Int) (x : Img) (i : Nat) : ∀ n, ∀ e ∈ (esD l x i n).1, e.offs.length = 16 ∧ e.mp.length = 4
  | 0, _, h => by cases h
  | n + 1, t, h => by
    have e : (esD l x i (n + 1)).1 = (esD l x i n).1 ++ [(edgeD l { x with edges := (esD l x i n).1 } (esD l x i n).2).1] := rfl
    rw [e] at h
    rcases List.mem_append.1 h with h | h
    · exact esD_len l x i n t h
    · simp at h; subst h; exact (edgeD_le l _ _).1
theorem decD_ok (l : List Int) (hl : ∀ n ∈ l, 0 ≤ n ∧ n < 4294967296) : (decD l).Ok :=
  ⟨tsD_lon l _ _, fun e he => (esD_len l _ _ _ e he).1, fun e he => (esD_len l _ _ _ e he).2, msD_set l hl _ _⟩
theorem doc_dec (l : List Int) (hl : ∀ n ∈ l, 0 ≤ n ∧ n < 4294967296) : docR l = decR l := by
  unfold docR decR
  rw [doc_prog l hl (decD_ok l hl)]
  cases progD l <;> rfl

/-- An image in hand, its cells unseen. -/
structure KnC (w : World) (x : Img) (il : List Value) : Prop where
  len : il.length = 4
  one : ∀ y, y ∈ il → y.oneCell' = true
  ok : x.Ok
  at_ : ∃ v, il = imgCells v x ∧ ImgAt w v x
theorem KnC.keep0 {w w' : World} {x : Img} {il : List Value} (h : KnC w x il) (k : Keep [] w w') : KnC w' x il := by
  obtain ⟨v, e, ha⟩ := h.at_
  exact ⟨h.len, h.one, h.ok, v, e, ha.keep0 k⟩
theorem KnC.of {w : World} {v : ImgV} {x : Img} (h : ImgAt w v x) : KnC w x (imgCells v x) :=
  ⟨rfl, fun y hy => by simp [imgCells] at hy; rcases hy with rfl | rfl | rfl | rfl <;> rfl, h.ok, v, rfl, h⟩
theorem great_knC {w : World} {x : Img} {il : List Value} (h : KnC w x il) : Calls Tryd.prog 6 #[.agg il.toArray] w fun e w' => e = .returned (.bool (greatImg x)) ∧ Keep [] w w' := by
  obtain ⟨v, rfl, ha⟩ := h.at_
  exact great_any v x w ha
theorem same_knC {w : World} {x y : Img} {il jl : List Value} (h : KnC w x il) (h' : KnC w y jl) : Calls Tryd.prog 14 #[.agg il.toArray, .agg jl.toArray] w fun e w' => e = .returned (.bool (decide (x = y))) ∧ Keep [] w w' := by
  obtain ⟨v, rfl, ha⟩ := h.at_
  obtain ⟨v', rfl, ha'⟩ := h'.at_
  exact rsame_any v v' x y w ha ha'
theorem dec_knC (A : Option Addr) (c n : Nat) (l : List Int) (w : World) (hn : l.length = n) (hW : Reads w 1 A n (uw l)) (hlt : ∀ n ∈ l, 0 ≤ n ∧ n < 4294967296) (hlen : l.length ≤ 100000) (hT : Tab w) (x : Img) (code : Int) (hr : decR l = (x, code)) :
    Calls Tryd.prog 12 #[.slice A n c] w fun e w' => ∃ il, e = .returned (.tuple #[.agg il.toArray, .int .i64 code]) ∧ KnC w' x il ∧ Keep [] w w' := by
  subst hn
  refine (decode_any A c l w hW hlt hlen hT).mono ?_
  rintro e w' ⟨v, rfl, ha, hk⟩
  rw [hr] at ha ⊢
  exact ⟨_, rfl, KnC.of ha, hk⟩
theorem rdec_knC (A : Option Addr) (c n : Nat) (l : List Int) (w : World) (hn : l.length = n) (hW : Reads w 1 A n (uw l)) (hlt : ∀ n ∈ l, 0 ≤ n ∧ n < 4294967296) (hlen : l.length ≤ 100000) (x : Img) (code : Int) (hr : decR l = (x, code)) :
    Calls Tryd.prog 13 #[.slice A n c] w fun e w' => ∃ il, e = .returned (.tuple #[.agg il.toArray, .int .i64 code]) ∧ KnC w' x il ∧ Keep [] w w' := by
  subst hn
  refine (rdecode_any A c l w ⟨hW, hlt, hlen⟩).mono ?_
  rintro e w' ⟨v, rfl, ha, hk⟩
  rw [doc_dec l hlt, hr] at ha ⊢
  exact ⟨_, rfl, KnC.of ha, hk⟩
/-- What Encode answers: the words of an image that may be, or none. -/
def encL (x : Img) : List Int := if (chkImg x).2 = 0 then wordsI x else []
theorem encL_in {x : Img} (ho : x.Ok) : (∀ n ∈ encL x, 0 ≤ n ∧ n < 4294967296) ∧ (encL x).length ≤ 2000 := by
  unfold encL
  split
  · rename_i h
    exact ⟨(right_of h).words_in ho, (right_of h).words_len ho⟩
  · exact ⟨fun n hn => by (cases hn), Nat.zero_le _⟩
theorem enc_knC {w : World} {x : Img} {il : List Value} (h : KnC w x il) (hT : Tab w) : Calls Tryd.prog 7 #[.agg il.toArray] w fun e w' => ∃ A c,
    e = .returned (.tuple #[.slice A (encL x).length c, .int .i64 (chkImg x).2]) ∧ Reads w' 1 A (encL x).length (uw (encL x)) ∧ Keep [] w w' := by
  obtain ⟨v, rfl, ha⟩ := h.at_
  refine (encode_any v x w ha hT).mono ?_
  rintro e w' ⟨A, c, rfl, ho, hk⟩
  have he : encW x = encL x := rfl
  have hm : (encL x).map (· % 4294967296) = encL x := by
    unfold encL
    split
    · rename_i h0
      exact (right_of h0).words_mod ha.ok
    · rfl
  rw [he] at ho ⊢
  refine ⟨A, c, rfl, ?_, hk⟩
  have := Reads.of_own ho
  rwa [wordV_uw, hm] at this
/-- What is decoded of what is encoded. -/
theorem dec_enc {x : Img} (ho : x.Ok) : decR (encL x) = if (chkImg x).2 = 0 then (x, 0) else (⟨0, [], [], []⟩, 110) := by
  unfold encL decR
  by_cases h : (chkImg x).2 = 0
  · rw [if_pos h, if_pos h, progD_right h ho]
  · rw [if_neg h, if_neg h]
    rfl
/-- What is encoded of what is decoded. -/
theorem enc_dec {l : List Int} (hl : ∀ n ∈ l, 0 ≤ n ∧ n < 4294967296) {x : Img} (h : decR l = (x, 0)) : (chkImg x).2 = 0 ∧ encL x = l := by
  unfold decR at h
  cases hp : progD l with
  | none => rw [hp] at h; cases h
  | some y =>
    rw [hp] at h
    cases h
    obtain ⟨h1, _, h3⟩ := progD_some hl hp
    exact ⟨h1, by unfold encL; rw [if_pos h1, ← h3]⟩
theorem dec_code (l : List Int) : (decR l).2 = 0 ∨ (decR l).2 = 110 := by
  unfold decR
  split
  · exact .inl rfl
  · exact .inr rfl
end Go.Proofs.YtfgjcjpemlgnmaaDoor
