/- digits.Pieces as an iterator: what it goes through, for every text; walked. -/
import Derived.Test.YtoepkhkaifgddaaRows
import Derived.Test.YtoepkhkaifgddaaIter
namespace Go.Proofs.Ytoepkhkaifgddaa
open Go.RowKit
attribute [local go_sem] Oper.semAt_some

abbrev NumStr := Int × ByteArray
def encNS (x : NumStr) : Array Value := #[.int .i64 x.1, .string x.2]
def number : Nat → List ByteArray → List NumStr
  | _, [] => []
  | i, b :: l => ((i : Int), b) :: number (i + 1) l
theorem number_snoc (l : List ByteArray) (b : ByteArray) : ∀ i, number i (l ++ [b]) = number i l ++ [(((i + l.length : Nat) : Int), b)] := by
  induction l with
  | nil => intro i; simp [number]
  | cons a l ih => intro i; simp [number, ih (i + 1)]; omega
theorem number_length (l : List ByteArray) : ∀ i, (number i l).length = l.length := by
  induction l with
  | nil => intro i; rfl
  | cons a l ih => intro i; simp [number, ih]

def isBlank (s : ByteArray) (i : Nat) : Bool := if h : i < s.size then s[i] == 32 else true
/-- Behind i places: what has come, and where a piece that is not at its end begins. -/
def scan (s : ByteArray) : Nat → List ByteArray × Option Nat
  | 0 => ([], none)
  | i + 1 =>
    let r := scan s i
    if isBlank s i then (match r.2 with | some a => (r.1 ++ [s.extract a i], none) | none => r)
    else (match r.2 with | some _ => r | none => (r.1, some i))
def fromI : Option Nat → Int
  | none => -1
  | some a => (a : Int)
def piecesOf (s : ByteArray) : List ByteArray := (scan s (s.size + 1)).1
theorem scan_le (s : ByteArray) : ∀ i, (scan s i).1.length ≤ i ∧ ∀ a, (scan s i).2 = some a → a < i := by
  intro i
  induction i with
  | zero => simp [scan]
  | succ i ih =>
    unfold scan
    dsimp only
    split
    · cases h : (scan s i).2 with
      | none => simp only []; exact ⟨by omega, fun a ha => by rw [h] at ha; cases ha⟩
      | some a => simp; omega
    · cases h : (scan s i).2 with
      | none => simp; omega
      | some b => simp only []; exact ⟨by omega, fun a ha => by have := ih.2 a ha; omega⟩

theorem scan_blank_none {s : ByteArray} {k : Nat} (hb : isBlank s k = true) (hf : (scan s k).2 = none) : scan s (k + 1) = scan s k := by
  rw [scan]; simp [hb, hf]
theorem scan_blank_some {s : ByteArray} {k a : Nat} (hb : isBlank s k = true) (hf : (scan s k).2 = some a) : scan s (k + 1) = ((scan s k).1 ++ [s.extract a k], none) := by
  rw [scan]; simp [hb, hf]
theorem scan_char_none {s : ByteArray} {k : Nat} (hb : isBlank s k = false) (hf : (scan s k).2 = none) : scan s (k + 1) = ((scan s k).1, some k) := by
  rw [scan]; simp [hb, hf]
theorem scan_char_some {s : ByteArray} {k a : Nat} (hb : isBlank s k = false) (hf : (scan s k).2 = some a) : scan s (k + 1) = scan s k := by
  rw [scan]; simp [hb, hf]
theorem scan_prefix_succ (s : ByteArray) (i : Nat) : (scan s i).1 <+: (scan s (i + 1)).1 := by
  cases hb : isBlank s i <;> cases hf : (scan s i).2
  · rw [scan_char_none hb hf]; exact List.prefix_refl _
  · rw [scan_char_some hb hf]; exact List.prefix_refl _
  · rw [scan_blank_none hb hf]; exact List.prefix_refl _
  · rw [scan_blank_some hb hf]; exact List.prefix_append _ _
theorem scan_prefix (s : ByteArray) {i j : Nat} (h : i ≤ j) : (scan s i).1 <+: (scan s j).1 := by
  induction j with
  | zero => obtain rfl : i = 0 := by omega
            exact List.prefix_refl _
  | succ j ih =>
    rcases Nat.lt_or_ge i (j + 1) with h1 | h1
    · exact (ih (by omega)).trans (scan_prefix_succ s j)
    · obtain rfl : i = j + 1 := by omega
      exact List.prefix_refl _
theorem number_prefix {l m : List ByteArray} (h : l <+: m) : number 0 l <+: number 0 m := by
  obtain ⟨r, rfl⟩ := h
  have : ∀ (l r : List ByteArray) (i : Nat), number i l <+: number i (l ++ r) := by
    intro l r
    induction l with
    | nil => intro i; exact List.nil_prefix
    | cons a l ih => intro i; simp only [number, List.cons_append]; exact List.prefix_cons_inj _ |>.2 (ih _)
  exact this _ _ _
theorem isBlank_lt {s : ByteArray} {k : Nat} (h : k < s.size) : isBlank s k = !((s[k].toNat : Int) != 32) := by
  unfold isBlank
  rw [dif_pos h]
  rw [Bool.eq_iff_iff]
  simp only [beq_iff_eq, Bool.not_eq_true', bne_eq_false_iff_eq]
  constructor
  · intro e; rw [e]; rfl
  · intro e
    exact UInt8.toNat_inj.1 (by have : s[k].toNat = 32 := by omega
                                rw [this]; rfl)
theorem isBlank_end (s : ByteArray) : isBlank s s.size = true := by unfold isBlank; simp

set_option maxRecDepth 100000 in
set_option maxHeartbeats 1000000 in
theorem pieces1_stops (n : Nat) (s : ByteArray) (B : Nat) (w : World) (hB : B < w.heap.size) (hc : w.cell? ⟨B, 0, none⟩ = some (.string s)) (hs : s.size ≤ 140737488355328) :
    SeqStopsK Fence.wide n Try.prog 66 #[.pointer (some ⟨B, 0, none⟩)] encNS (Same [B]) (fun xs => xs = number 0 (piecesOf s)) (fun pre => pre <+: number 0 (piecesOf s)) (piecesOf s).length w := by
  intro l J Jx W hW hJ hJx hY h0
  have hcW := (hW.cell (p := ⟨B, 0, none⟩) hB).trans hc
  refine callsIn_of_wp Try.func66 rfl trivial ?_ rfl
  simp only [Try.ntmps66, List.size_toArray, List.length_cons, List.length_nil, Nat.reduceAdd, Nat.reduceSub, Array.replicate_succ, Array.replicate_zero, List.push_toArray, List.append_toArray, List.nil_append, List.cons_append]
  gi_wp2
  gi_loopw [3, 4, 5] (fun vn vf vi wr => ∃ k : Nat, k ≤ s.size + 1 ∧ vi = .int .i64 k ∧ vn = .int .i64 (scan s k).1.length ∧ vf = .int .i64 (fromI (scan s k).2) ∧ J (number 0 (scan s k).1) wr ∧ wr.cell? ⟨B, 0, none⟩ = some (.string s))
    (fun _ _ i _ => s.size + 1 - (intOf i).toNat)
  case atStart => exact ⟨0, Nat.zero_le _, rfl, rfl, rfl, h0, hcW⟩
  case round =>
    obtain ⟨k, hk, rfl, rfl, rfl, hJr, hcr⟩ := hrel
    by_cases hlt : k ≤ s.size
    · obtain ⟨hl1, hl2⟩ := scan_le s k
      have e0 : fromI none = -1 := rfl
      have hpre := Lib.hid (scan_prefix s (show k + 1 ≤ s.size + 1 by omega))
      have hend : k = s.size ∨ k < s.size := by omega
      rcases hf : (scan s k).2 with _ | a
      · have hF := Lib.hid hf
        clear hf
        cases hb : isBlank s k
        · have hS := Lib.hid (scan_char_none hb hF.out)
          have hk1 : k < s.size := by
            rcases hend with rfl | h
            · rw [isBlank_end] at hb; cases hb
            · exact h
          rw [isBlank_lt hk1] at hb
          have hb1 : ((s[k].toNat : Int) != 32) = true := by simpa using hb
          clear hb
          gi_wp2
          go_roundw
          case rel => exact ⟨k + 1, by omega, by go_num, by rw [hS.out], by rw [hS.out]; rfl, by rw [hS.out]; exact hJr, hcr⟩
          case measure => simp [intOf] <;> omega
        · have hS := Lib.hid (scan_blank_none hb hF.out)
          rcases hend with rfl | hk1
          · clear hb
            gi_wp2
            go_roundw
            case rel => exact ⟨s.size + 1, by omega, by go_num, by rw [hS.out], by rw [hS.out, hF.out], by rw [hS.out]; exact hJr, hcr⟩
            case measure => simp [intOf] <;> omega
          · rw [isBlank_lt hk1] at hb
            have hb1 : ((s[k].toNat : Int) != 32) = false := by simpa using hb
            clear hb
            gi_wp2
            go_roundw
            case rel => exact ⟨k + 1, by omega, by go_num, by rw [hS.out], by rw [hS.out, hF.out], by rw [hS.out]; exact hJr, hcr⟩
            case measure => simp [intOf] <;> omega
      · have hF := Lib.hid hf
        have hak := hl2 a hf
        have e1 : fromI (some a) = (a : Int) := rfl
        clear hf hl2
        cases hb : isBlank s k
        · have hS := Lib.hid (scan_char_some hb hF.out)
          have hk1 : k < s.size := by
            rcases hend with rfl | h
            · rw [isBlank_end] at hb; cases hb
            · exact h
          rw [isBlank_lt hk1] at hb
          have hb1 : ((s[k].toNat : Int) != 32) = true := by simpa using hb
          clear hb
          gi_wp2
          go_roundw
          case rel => exact ⟨k + 1, by omega, by go_num, by rw [hS.out], by rw [hS.out, hF.out], by rw [hS.out]; exact hJr, hcr⟩
          case measure => simp [intOf] <;> omega
        · have hS := Lib.hid (scan_blank_some hb hF.out)
          have hlen : (number 0 (scan s k).1).length < (piecesOf s).length := by
            have := hpre.out.length_le
            rw [hS.out] at this
            rw [number_length]
            simp at this
            unfold piecesOf
            omega
          obtain ⟨fn, tmps, assign, body, hy, hR⟩ := hY (number 0 (scan s k).1) (((scan s k).1.length : Int), s.extract a k) wr hJr hlen
          dsimp only [encNS] at hy
          have hN : Hid (number 0 (scan s k).1 ++ [(((scan s k).1.length : Int), s.extract a k)] = number 0 (scan s (k + 1)).1) := by
            show _ = _
            rw [hS.out, number_snoc, Nat.zero_add]
          clear hlen
          rcases hend with rfl | hk1
          · clear hb
            gi_wp2
            refine ⟨fun h => (by cases h), hR.mono ?_⟩
            rintro e W3 (⟨rfl, hJ3, hk3⟩ | ⟨rfl, hJx3⟩)
            · have hc3 : W3.cell? ⟨B, 0, none⟩ = some (.string s) := (hk3.cell (p := ⟨B, 0, none⟩) (by simp)).trans hcr
              gi_wp2
              go_roundw
              case rel => exact ⟨s.size + 1, by omega, by go_num, by rw [hS.out]; simp, by rw [hS.out]; rfl, by rw [← hN.out]; exact hJ3, hc3⟩
              case measure => simp [intOf] <;> omega
            · gi_wp2
              refine bodyPost_ret (results_none rfl _ _ _) rfl ?_
              exact ⟨⟨_, rfl⟩, .inr ⟨_, by rw [hN.out]; exact number_prefix hpre.out, hJx3⟩⟩
          · rw [isBlank_lt hk1] at hb
            have hb1 : ((s[k].toNat : Int) != 32) = false := by simpa using hb
            clear hb
            gi_wp2
            refine ⟨fun h => (by cases h), hR.mono ?_⟩
            rintro e W3 (⟨rfl, hJ3, hk3⟩ | ⟨rfl, hJx3⟩)
            · have hc3 : W3.cell? ⟨B, 0, none⟩ = some (.string s) := (hk3.cell (p := ⟨B, 0, none⟩) (by simp)).trans hcr
              gi_wp2
              go_roundw
              case rel => exact ⟨k + 1, by omega, by go_num, by rw [hS.out]; simp, by rw [hS.out]; rfl, by rw [← hN.out]; exact hJ3, hc3⟩
              case measure => simp [intOf] <;> omega
            · gi_wp2
              refine bodyPost_ret (results_none rfl _ _ _) rfl ?_
              exact ⟨⟨_, rfl⟩, .inr ⟨_, by rw [hN.out]; exact number_prefix hpre.out, hJx3⟩⟩
    · obtain rfl : k = s.size + 1 := by omega
      gi_wp2
      go_end0
      exact ⟨⟨_, rfl⟩, .inl ⟨_, rfl, hJr⟩⟩

end Go.Proofs.Ytoepkhkaifgddaa
