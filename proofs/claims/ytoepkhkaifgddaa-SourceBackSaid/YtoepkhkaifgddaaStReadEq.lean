/- The step of a line as the document reads it, part by part, is the step that the program reads, piece by piece. Plain; no condition. -/
import Derived.Test.YtoepkhkaifgddaaStParseW
namespace Go.Proofs.Ytoepkhkaifgddaa
open Go.RowKit

/-- All pieces that are left are parts of one kind. -/
def absorb (s : Stp) (c : Int) : List ByteArray → Option Stp
  | [] => some s
  | p :: l => if (partP s c p).2 = true then absorb (partP s c p).1 c l else none
/-- The parts that are left, over the pieces that are left; true: no piece is left. -/
def partsR (s : Stp) : List Int → List ByteArray → Option (Stp × Bool)
  | [], rest => some (s, rest.isEmpty)
  | c :: cs, rest =>
    if c = 115 ∨ c = 119 then (absorb s c rest).bind (fun s' => partsR s' cs [])
    else match rest with
      | [] => none
      | p :: rest' => if (partP s c p).2 = true then partsR (partP s c p).1 cs rest' else none
def partsL (p : ByteArray) : List Int := (List.range p.size).map (byteAt p)
def doneR : Option (Stp × Bool) → Stp × Bool
  | some (s, true) => (s, true)
  | _ => (noStp, false)
/-- The step of a line, as the document reads it. -/
def readD (line : ByteArray) : Stp × Bool :=
  match piecesOf line with
  | [] => (noStp, false)
  | p0 :: rest => if kindW p0 = 0 then (noStp, false) else doneR (partsR { noStp with kind := kindW p0 } (partsL (shp (kindW p0)).2) rest)

theorem partP_kind (s : Stp) (c : Int) (p : ByteArray) : (partP s c p).1.kind = s.kind := by
  unfold partP
  split
  · rfl
  · split
    · rfl
    · split
      · rfl
      · split <;> rfl
/-- Sections and words come last. -/
structure LastSW (p : ByteArray) : Prop where
  early : ∀ i, i + 1 < p.size → byteAt p i ≠ 115 ∧ byteAt p i ≠ 119
  least : leastP p = if 0 < p.size ∧ (byteAt p (p.size - 1) = 115 ∨ byteAt p (p.size - 1) = 119) then (p.size : Int) - 1 else (p.size : Int)
theorem shp_last (k : Int) : LastSW (shp k).2 := by
  by_cases hk : 1 ≤ k ∧ k ≤ 15
  · have : k = 1 ∨ k = 2 ∨ k = 3 ∨ k = 4 ∨ k = 5 ∨ k = 6 ∨ k = 7 ∨ k = 8 ∨ k = 9 ∨ k = 10 ∨ k = 11 ∨ k = 12 ∨ k = 13 ∨ k = 14 ∨ k = 15 := by omega
    clear hk
    rcases this with rfl | rfl | rfl | rfl | rfl | rfl | rfl | rfl | rfl | rfl | rfl | rfl | rfl | rfl | rfl
    all_goals
      refine ⟨fun i hi => ?_, by decide +kernel⟩
      have hs := shp_size
      have h3 : i = 0 ∨ i = 1 := by
        have := hs 1; have := hs 2; have := hs 3; have := hs 4; have := hs 5; have := hs 6; have := hs 7; have := hs 8; have := hs 9; have := hs 10; have := hs 11; have := hs 12; have := hs 13; have := hs 14; have := hs 15
        omega
      revert hi
      rcases h3 with rfl | rfl <;> decide
  · have hs : shp k = ({ data := #[] }, { data := #[] }) := by unfold shp; (repeat rw [if_neg (by omega)])
    rw [hs]
    exact ⟨fun i hi => absurd hi (by show ¬ i + 1 < 0; omega), by decide +kernel⟩

def doneS : Option RdS → Stp × Bool
  | some st => rdDone st
  | none => (noStp, false)
theorem readS_done (line : ByteArray) : readS line = doneS (rdFold rd0 (number 0 (piecesOf line))) := by
  unfold readS doneS
  cases rdFold rd0 (number 0 (piecesOf line)) <;> rfl
section
variable {sh : ByteArray × ByteArray}
theorem absorb_fold (c : Int) (hc : c = 115 ∨ c = 119) (h0 : 0 < sh.2.size) (hb : byteAt sh.2 (sh.2.size - 1) = c) : ∀ (rest : List ByteArray) (s : Stp) (m : Int) (j : Nat), sh.2.size ≤ j →
    rdFold ⟨s, sh, m⟩ (number j rest) = (absorb s c rest).map (fun s' => (⟨s', sh, if rest = [] then m else (j : Int) + rest.length - 1⟩ : RdS))
  | [], s, m, j, _ => by simp [number, rdFold, absorb]
  | p :: rest, s, m, j, hj => by
    rw [number, rdFold, absorb]
    have e1 : (min ((j : Nat) : Int) (sh.2.size : Int) - 1).toNat = sh.2.size - 1 := by omega
    have e2 : ¬ ((j : Nat) : Int) = 0 := by omega
    have e3 : ¬ min ((j : Nat) : Int) (sh.2.size : Int) - 1 < 0 := by omega
    have e4 : ¬ ((sh.2.size : Int) < ((j : Nat) : Int) ∧ byteAt sh.2 (min ((j : Nat) : Int) (sh.2.size : Int) - 1).toNat ≠ 115 ∧ byteAt sh.2 (min ((j : Nat) : Int) (sh.2.size : Int) - 1).toNat ≠ 119) := by
      rw [e1, hb]
      rintro ⟨_, h1, h2⟩
      rcases hc with rfl | rfl
      · exact h1 rfl
      · exact h2 rfl
    have hst : rdStep ⟨s, sh, m⟩ ((j : Int), p) = if (partP s c p).2 = true then some ⟨(partP s c p).1, sh, (j : Int)⟩ else none := by
      unfold rdStep
      dsimp only
      rw [if_neg e2, if_neg e3, if_neg e4, e1, hb]
    rw [hst]
    by_cases hp : (partP s c p).2 = true
    · rw [if_pos hp, if_pos hp]
      show rdFold _ _ = _
      rw [absorb_fold c hc h0 hb rest _ _ (j + 1) (by omega)]
      congr 1
      funext s'
      by_cases hr : rest = []
      · subst hr; simp
      · rw [if_neg hr, if_neg (by simp)]
        congr 1
        simp
        omega
    · rw [if_neg hp, if_neg hp]; rfl
theorem absorb_kind : ∀ (rest : List ByteArray) (s s' : Stp) (c : Int), absorb s c rest = some s' → s'.kind = s.kind
  | [], s, s', c, h => by cases h; rfl
  | p :: rest, s, s', c, h => by
    rw [absorb] at h
    split at h
    · rw [absorb_kind rest _ s' c h, partP_kind]
    · cases h
theorem partsL_get (p : ByteArray) (i : Nat) (h : i < p.size) : (partsL p).drop i = byteAt p i :: (partsL p).drop (i + 1) := by
  have hl : i < (partsL p).length := by unfold partsL; simpa using h
  rw [List.drop_eq_getElem_cons hl]
  congr 1
  simp [partsL]
theorem partsR_cons (s : Stp) (c : Int) (cs : List Int) (rest : List ByteArray) : partsR s (c :: cs) rest = if c = 115 ∨ c = 119 then (absorb s c rest).bind (fun s' => partsR s' cs []) else match rest with
      | [] => none
      | p :: rest' => if (partP s c p).2 = true then partsR (partP s c p).1 cs rest' else none := by
  cases rest <;> rfl
theorem parts_fold (hL : LastSW sh.2) : ∀ (n j : Nat) (s : Stp) (rest : List ByteArray), n + (j - 1) = sh.2.size → 1 ≤ j → s.kind ≠ 0 → (∀ i, i < j - 1 → byteAt sh.2 i ≠ 115 ∧ byteAt sh.2 i ≠ 119) →
    doneS (rdFold ⟨s, sh, (j : Int) - 1⟩ (number j rest)) = doneR (partsR s ((partsL sh.2).drop (j - 1)) rest)
  | 0, j, s, rest, hn, hj, hk, hq => by
    have hd : (partsL sh.2).drop (j - 1) = [] := by
      rw [List.drop_eq_nil_iff]
      unfold partsL
      simp
      omega
    rw [hd, partsR]
    cases rest with
    | nil =>
      rw [number, rdFold]
      unfold doneS rdDone
      dsimp only
      rw [if_neg]
      · rfl
      · rintro (h | h)
        · exact hk h
        · rw [hL.least] at h
          split at h <;> omega
    | cons p rest =>
      have hst : rdStep ⟨s, sh, (j : Int) - 1⟩ ((j : Int), p) = none := by
        by_cases hz : sh.2.size = 0
        · unfold rdStep
          dsimp only
          rw [if_neg (by omega), if_pos (by omega)]
        · have hb := hq (sh.2.size - 1) (by omega)
          have e1 : (min ((j : Nat) : Int) (sh.2.size : Int) - 1).toNat = sh.2.size - 1 := by omega
          unfold rdStep
          dsimp only
          rw [if_neg (by omega), if_neg (by omega), e1, if_pos ⟨by omega, hb.1, hb.2⟩]
      rw [number, rdFold, hst]
      rfl
  | n + 1, j, s, rest, hn, hj, hk, hq => by
    have hjl : j - 1 < sh.2.size := by omega
    rw [partsL_get _ _ hjl, show j - 1 + 1 = j by omega, partsR_cons]
    by_cases hc : byteAt sh.2 (j - 1) = 115 ∨ byteAt sh.2 (j - 1) = 119
    · have hlast : j = sh.2.size := by
        rcases Nat.lt_or_ge j sh.2.size with h | h
        · have := hL.early (j - 1) (by omega)
          rcases hc with h1 | h1
          · exact absurd h1 this.1
          · exact absurd h1 this.2
        · omega
      have hd : (partsL sh.2).drop j = [] := by
        rw [List.drop_eq_nil_iff]
        unfold partsL
        simp
        omega
      have hle : leastP sh.2 = (sh.2.size : Int) - 1 := by
        rw [hL.least, if_pos ⟨by omega, by rw [← hlast]; exact hc⟩]
      rw [if_pos hc, hd, absorb_fold _ hc (by omega) (by rw [← hlast]) rest s _ j (by omega)]
      cases ha : absorb s (byteAt sh.2 (j - 1)) rest with
      | none => rfl
      | some s' =>
        have hk' := absorb_kind _ _ _ _ ha
        show rdDone _ = doneR (partsR s' [] [])
        unfold rdDone
        dsimp only
        rw [if_neg]
        · rfl
        · rintro (h | h)
          · rw [hk'] at h; exact hk h
          · rw [hle] at h
            split at h
            · omega
            · rename_i hr
              have : 0 < rest.length := List.length_pos_iff.2 hr
              omega
    · rw [if_neg hc]
      cases rest with
      | nil =>
        rw [number, rdFold]
        show rdDone _ = _
        unfold rdDone
        dsimp only
        rw [if_pos]
        · rfl
        · right
          rw [hL.least]
          split
          · rename_i h
            have : j ≠ sh.2.size := fun e => hc (by rw [e]; exact h.2)
            omega
          · omega
      | cons p rest =>
        have e1 : (min ((j : Nat) : Int) (sh.2.size : Int) - 1).toNat = j - 1 := by omega
        have hst : rdStep ⟨s, sh, (j : Int) - 1⟩ ((j : Int), p) = if (partP s (byteAt sh.2 (j - 1)) p).2 = true then some ⟨(partP s (byteAt sh.2 (j - 1)) p).1, sh, (j : Int)⟩ else none := by
          unfold rdStep
          dsimp only
          rw [if_neg (by omega), if_neg (by omega), if_neg (by rintro ⟨h, _⟩; omega), e1]
        rw [number, rdFold, hst]
        dsimp only
        by_cases hp : (partP s (byteAt sh.2 (j - 1)) p).2 = true
        · rw [if_pos hp, if_pos hp]
          show doneS (rdFold _ _) = _
          have ih := parts_fold hL n (j + 1) (partP s (byteAt sh.2 (j - 1)) p).1 rest (by omega) (by omega) (by rw [partP_kind]; exact hk) (fun i hi => by
            rcases Nat.lt_or_ge i (j - 1) with h | h
            · exact hq i h
            · obtain rfl : i = j - 1 := by omega
              exact ⟨fun h => hc (.inl h), fun h => hc (.inr h)⟩)
          rw [show ((j + 1 : Nat) : Int) - 1 = (j : Int) by omega, show j + 1 - 1 = j by omega] at ih
          exact ih
        · rw [if_neg hp, if_neg hp]
          rfl
theorem readS_eq (line : ByteArray) : readS line = readD line := by
  rw [readS_done]
  unfold readD
  cases piecesOf line with
  | nil =>
    rw [number, rdFold]
    show rdDone rd0 = _
    exact if_pos (.inl rfl)
  | cons p0 rest =>
    rw [number, rdFold]
    have hst : rdStep rd0 (((0 : Nat) : Int), p0) = if kindW p0 = 0 then none else some { s := { noStp with kind := kindW p0 }, sh := shp (kindW p0), many := ((0 : Nat) : Int) } := if_pos rfl
    rw [hst]
    dsimp only
    by_cases hk : kindW p0 = 0
    · rw [if_pos hk, if_pos hk]; rfl
    · rw [if_neg hk, if_neg hk]
      have := parts_fold (sh := shp (kindW p0)) (shp_last (kindW p0)) (shp (kindW p0)).2.size 1 { noStp with kind := kindW p0 } rest (by omega) (by omega) hk (fun i hi => absurd hi (by omega))
      exact this
end
end Go.Proofs.Ytoepkhkaifgddaa
