/- May queues be: the program's own test and the document's; is a task in a set. -/
import Derived.Test.YteocldlglklnjaaDoorImgT
namespace Go.Proofs.YteocldlglklnjaaDoor
open Go.RowKit

theorem que_two (q : Que) : queCells q = [.int .i64 q.cap, .int .i64 q.pol] := rfl
theorem all_step {α : Type} {p : α → Bool} {l : List α} {k : Nat} (hk : k < l.length) (h : (l.take k).all p = true) (hp : p l[k] = true) : (l.take (k + 1)).all p = true := by
  rw [List.take_succ_eq_append_getElem hk, List.all_append, h]; simp [hp]
theorem all_bad {α : Type} {p : α → Bool} {l : List α} {k : Nat} (hk : k < l.length) (hp : p l[k] = false) : l.all p = false := by
  rw [← Bool.not_eq_true]
  intro h
  have := List.all_eq_true.1 h _ (List.getElem_mem hk)
  rw [hp] at this; cases this

set_option maxRecDepth 100000 in
set_option maxHeartbeats 1000000 in
theorem queues_any (A : Option Addr) (c : Nat) (l : List Que) (w : World) (h : Reads w 2 A l.length (l.flatMap queCells)) (hm : l.length ≤ maxLen) :
    Calls Tryd.prog 70 #[.slice A l.length c] w fun e w' => e = .returned (.bool (quesOk l)) ∧ Keep [] w w' := by
  unfold maxLen at hm
  have he := h.elems rfl (fun q _ => rfl)
  rcases Nat.lt_or_ge 4 l.length with h4 | h4
  · have HF : Hid (quesOk l = false) := by show _ = _; unfold quesOk; simp; omega
    clear he
    generalize l.length = n at *
    go_enter Tryd.func70, Tryd.ntmps70
    go_wp2
    go_ret
    exact ⟨by rw [HF.out]; rfl, Keep.refl _ _⟩
  have HQ : Hid (quesOk l = l.all queOk) := by show _ = _; unfold quesOk; simp [h4]
  go_enter Tryd.func70, Tryd.ntmps70
  go_wp2
  go_loopw [10] (fun i wr => ∃ k : Nat, k ≤ l.length ∧ i = .int .i64 k ∧ (l.take k).all queOk = true ∧ Keep [] w wr) (fun i _ => l.length - (intOf i).toNat)
  case atStart => exact ⟨0, Nat.zero_le _, rfl, rfl, Keep.refl _ _⟩
  case round =>
    obtain ⟨k, hk, rfl, hall, hkeep⟩ := hrel
    by_cases hlt : k < l.length
    · obtain ⟨b, o, hA, hbl, hcs⟩ := he (by omega)
      have hce := (hcs k hlt).keep0 hkeep hbl
      rw [que_two] at hce
      have q0 := hce 0 _ rfl
      have q1 := hce 1 _ rfl
      have hst := Lib.hid (all_step hlt hall)
      have hbd := Lib.hid (all_bad (p := queOk) hlt)
      have hq : Hid (queOk l[k] = (inR l[k].cap 1 16 && inR l[k].pol 1 3)) := show _ = _ from rfl
      have K1 := hkeep.alloc (.cells #[.int .i64 l[k].cap, .int .i64 l[k].pol] 148)
      simp only [Nat.add_zero] at q0
      clear hce hcs he hall h
      generalize l[k] = q at *
      generalize q.cap = a at *
      generalize q.pol = p at *
      rw [hA]
      have hc : (a < 1) ∨ (1 ≤ a ∧ 16 < a) ∨ (1 ≤ a ∧ a ≤ 16 ∧ p < 1) ∨ (1 ≤ a ∧ a ≤ 16 ∧ 1 ≤ p ∧ 3 < p) ∨ (1 ≤ a ∧ a ≤ 16 ∧ 1 ≤ p ∧ p ≤ 3) := by omega
      rcases hc with g1 | ⟨g1, g2⟩ | ⟨g1, g2, g3⟩ | ⟨g1, g2, g3, g4⟩ | ⟨g1, g2, g3, g4⟩
      iterate 4
        · have HB := Lib.hid (hbd.out (by rw [hq.out]; unfold inR; simp <;> omega))
          go_wp2
          go_ret
          exact ⟨by rw [HQ.out, HB.out]; rfl, K1⟩
      · have HS := Lib.hid (hst.out (by rw [hq.out]; unfold inR; simp <;> omega))
        go_wp2
        go_roundw
        case rel => exact ⟨k + 1, by omega, by go_num, HS.out, K1⟩
        case measure => simp [intOf] <;> omega
    · have HA : Hid (l.all queOk = true) := by show _ = _; rwa [List.take_of_length_le (by omega)] at hall
      clear hall
      go_wp2
      go_ret
      exact ⟨by rw [HQ.out, HA.out]; rfl, hkeep⟩

/-- Is a task in a set? (The document's.) -/
def has10 (s : Nat) (i : Int) : Bool := decide (0 ≤ i) && decide (i < 32) && s.testBit i.toNat
theorem rem_bit (s k : Nat) : (((s : Int) / 2 ^ k).tmod 2 == 1) = s.testBit k := by
  have e : ((s : Int) / 2 ^ k).tmod 2 = ((s / 2 ^ k % 2 : Nat) : Int) := by
    rw [Int.tmod_eq_emod_of_nonneg (Int.ediv_nonneg (by omega) (by have : (0 : Int) < 2 ^ k := Int.pow_pos (by decide); omega))]
    norm_cast
  rw [e, Nat.testBit_eq_decide_div_mod_eq, Bool.eq_iff_iff]
  simp only [beq_iff_eq, decide_eq_true_eq]
  omega
set_option maxRecDepth 100000 in
set_option maxHeartbeats 1000000 in
theorem has10_any (s : Nat) (i : Int) (w : World) (_hs : s < 4294967296) : Calls Tryd.prog 24 #[.int .u32 (s : Int), .int .i64 i] w fun e w' => e = .returned (.bool (has10 s i)) ∧ w = w' := by
  have hc : i < 0 ∨ (0 ≤ i ∧ 32 ≤ i) ∨ (0 ≤ i ∧ i < 32) := by omega
  rcases hc with h | ⟨h1, h2⟩ | ⟨h1, h2⟩
  · have HI : Hid (has10 s i = false) := by show _ = _; unfold has10; simp; omega
    go_enter Tryd.func24, Tryd.ntmps24
    go_wp2
    go_ret
    exact ⟨by rw [HI.out]; rfl, rfl⟩
  · have HI : Hid (has10 s i = false) := by show _ = _; unfold has10; simp; omega
    go_enter Tryd.func24, Tryd.ntmps24
    go_wp2
    go_ret
    exact ⟨by rw [HI.out]; rfl, rfl⟩
  · obtain ⟨k, rfl⟩ : ∃ k : Nat, i = (k : Int) := ⟨i.toNat, by omega⟩
    have HI : Hid (has10 s k = s.testBit k) := by show _ = _; unfold has10; rw [Int.toNat_natCast]; simp; omega
    have hr := Lib.hid (rem_bit s k)
    go_enter Tryd.func24, Tryd.ntmps24
    go_wp2
    go_ret
    exact ⟨by rw [HI.out, ← hr.out]; rfl, rfl⟩

set_option maxRecDepth 100000 in
set_option maxHeartbeats 1000000 in
theorem rqueues_any (A : Option Addr) (c : Nat) (l : List Que) (w : World) (h : Reads w 2 A l.length (l.flatMap queCells)) (hm : l.length ≤ maxLen) :
    Calls Tryd.prog 55 #[.slice A l.length c] w fun e w' => e = .returned (.bool (quesOk l)) ∧ w = w' := by
  unfold maxLen at hm
  have he := h.elems rfl (fun q _ => rfl)
  have HQ : Hid (quesOk l = (decide (l.length ≤ 4) && l.all queOk)) := show _ = _ from rfl
  go_enter Tryd.func55, Tryd.ntmps55
  go_wp2
  go_loopw [3] (fun i wr => ∃ k : Nat, k ≤ l.length ∧ k ≤ 4 ∧ i = .int .i64 k ∧ (l.take k).all queOk = true ∧ w = wr) (fun i _ => l.length - (intOf i).toNat)
  case atStart => exact ⟨0, Nat.zero_le _, Nat.zero_le _, rfl, rfl, rfl⟩
  case round =>
    obtain ⟨k, hk, hk4, rfl, hall, rfl⟩ := hrel
    by_cases hlt : k < l.length
    · rcases Nat.lt_or_ge k 4 with h4 | h4
      · obtain ⟨b, o, hA, hbl, hcs⟩ := he (by omega)
        have hce := hcs k hlt
        rw [que_two] at hce
        have q0 := hce 0 _ rfl
        have q1 := hce 1 _ rfl
        have hst := Lib.hid (all_step hlt hall)
        have hbd := Lib.hid (all_bad (p := queOk) hlt)
        have hq : Hid (queOk l[k] = (inR l[k].cap 1 16 && inR l[k].pol 1 3)) := show _ = _ from rfl
        simp only [Nat.add_zero] at q0
        clear hce hcs he hall h
        generalize l[k] = q at *
        generalize q.cap = a at *
        generalize q.pol = p at *
        rw [hA]
        have hc : inR a 1 16 = false ∨ (inR a 1 16 = true ∧ inR p 1 3 = false) ∨ (inR a 1 16 = true ∧ inR p 1 3 = true) := by cases inR a 1 16 <;> cases inR p 1 3 <;> simp
        rcases hc with g1 | ⟨g1, g2⟩ | ⟨g1, g2⟩
        iterate 2
          · have HB := Lib.hid (hbd.out (by rw [hq.out]; simp [*]))
            go_wp2_with (refine (in10_any _ _ _ _).mono ?_; rintro e w' ⟨rfl, rfl⟩)
            go_ret
            exact ⟨by rw [HQ.out, HB.out]; simp, rfl⟩
        · have HS := Lib.hid (hst.out (by rw [hq.out]; simp [*]))
          go_wp2_with (refine (in10_any _ _ _ _).mono ?_; rintro e w' ⟨rfl, rfl⟩)
          go_roundw
          case rel => exact ⟨k + 1, by omega, by omega, by go_num, HS.out, by trivial⟩
          case measure => simp [intOf] <;> omega
      · clear h he
        go_wp2
        go_ret
        exact ⟨by rw [HQ.out]; simp <;> omega, rfl⟩
    · have HA : Hid (l.all queOk = true) := by show _ = _; rwa [List.take_of_length_le (by omega)] at hall
      clear hall
      go_wp2
      go_ret
      exact ⟨by rw [HQ.out, HA.out]; simp; omega, rfl⟩
end Go.Proofs.YteocldlglklnjaaDoor
