/- May queues become others, may new tasks come from these offsets on: the program's own tests. What image.Edge answers; may a task be, may queues be (the program's own). May new tasks come from these offsets on; may an edge be: the program's own tests. May queues be: the program's own test and the document's; is a task in a set. -/
import Derived.Test.YtoepkhkaifgddaaImgT
namespace Go.Proofs.Ytoepkhkaifgddaa
open Go.RowKit

theorem has_testBit (s k : Nat) (hk : k < 32) : decide (s &&& bitN (k : Int) ≠ 0) = s.testBit k := by
  rw [bitN_nat hk, Bool.eq_iff_iff, decide_eq_true_eq]
  constructor
  · intro h
    rw [← Bool.not_eq_false]
    intro hb
    apply h
    apply Nat.eq_of_testBit_eq
    intro i
    rw [Nat.testBit_and, Nat.testBit_two_pow, Nat.zero_testBit]
    by_cases e : k = i
    · subst e; simp [hb]
    · simp [e]
  · intro h e
    have := congrArg (fun x => x.testBit k) e
    simp [Nat.testBit_and, h] at this
/-- The set of a row of numbers. -/
def maskOf : List Int → Nat
  | [] => 0
  | n :: l => maskOf l ||| bitN n
theorem maskOf_lt : ∀ l, maskOf l < 4294967296
  | [] => by decide
  | n :: l => Nat.or_lt_two_pow (n := 32) (maskOf_lt l) (bitN_lt n)
theorem maskOf_has (l : List Int) (h : ∀ n ∈ l, 0 ≤ n ∧ n ≤ 31) (k : Nat) (_hk : k < 32) : (maskOf l).testBit k = l.contains (k : Int) := by
  induction l with
  | nil => simp [maskOf]
  | cons n l ih =>
    obtain ⟨h1, h2⟩ := h n (by simp)
    obtain ⟨j, rfl⟩ : ∃ j : Nat, n = (j : Int) := ⟨n.toNat, by omega⟩
    rw [maskOf, Nat.testBit_or, ih (fun m hm => h m (by simp [hm])), bitN_nat (by omega), Nat.testBit_two_pow, List.contains_cons, Bool.or_comm]
    congr 1
    rw [Bool.eq_iff_iff]
    simp
    omega
def seenOf (l : List Int) : List Int := l.foldl (fun s n => if n = 0 then s else n :: s) []
theorem seenOf_snoc (l : List Int) (n : Int) : seenOf (l ++ [n]) = if n = 0 then seenOf l else n :: seenOf l := by unfold seenOf; rw [List.foldl_append]; rfl
theorem mapsOk_step {frm to : Nat} {l : List Int} {k : Nat} (hk : k < l.length) (h : mapsOk frm to 0 [] (l.take k) = true) :
    mapsOk frm to 0 [] (l.take (k + 1)) = (inR l[k] 0 to && (l[k] == 0 || (decide (k < frm) && !(seenOf (l.take k)).contains l[k]))) := by
  have e : 0 + (l.take k).length = k := by rw [List.length_take]; omega
  rw [List.take_succ_eq_append_getElem hk, mapsOk_append, h, e, mapsOk, mapsOk, Bool.and_true]; rfl
theorem mapsOk_bad {frm to : Nat} {l : List Int} {k : Nat} (h : mapsOk frm to 0 [] (l.take k) = false) : mapsOk frm to 0 [] l = false := by
  have h0 : l = l.take k ++ l.drop k := (List.take_append_drop k l).symm
  rw [h0, mapsOk_append, h, Bool.false_and]
/-- What has been seen lies in bounds. -/
theorem mapsOk_seen (frm to : Nat) : ∀ (l : List Int) (k : Nat) (s : List Int), mapsOk frm to k s l = true → (∀ n ∈ s, 0 ≤ n ∧ n ≤ to) → ∀ n ∈ l.foldl (fun s n => if n = 0 then s else n :: s) s, 0 ≤ n ∧ n ≤ to
  | [], _, s, _, hs => hs
  | m :: l, k, s, h, hs => by
    rw [mapsOk] at h
    simp only [Bool.and_eq_true] at h
    rw [List.foldl_cons]
    refine mapsOk_seen frm to l (k + 1) _ h.2 ?_
    have := h.1.1
    unfold inR at this
    split
    · exact hs
    · intro n hn
      rcases List.mem_cons.1 hn with rfl | hn
      · simpa using this
      · exact hs n hn
theorem agg_4 : AggOf Try.prog 74 4 := ⟨by kernel_rfl, by kernel_rfl⟩
theorem agg_16 : AggOf Try.prog 73 16 := ⟨by kernel_rfl, by kernel_rfl⟩

end Go.Proofs.Ytoepkhkaifgddaa

namespace Go.Proofs.Ytoepkhkaifgddaa
open Go.RowKit

/-- Which edge goes from a mode to another one: the first. -/
def edgeIs (f t : Int) (_ : Nat) (e : Edg) : Bool := !(e.frm == f && e.to == t)
def edgeAt (es : List Edg) (f t : Int) : Option Nat := firstBad (edgeIs f t) 0 es
def edgeRes (r : Option Nat) : Value := match r with | some i => .tuple #[.int .i64 (i : Int), .bool true] | none => .tuple #[.int .i64 0, .bool false]
theorem edg_c (e : Edg) (j : Nat) (h : j < (edgInts e).length) : (edgCells e)[j]? = some (.int .i64 (edgInts e)[j]) := iv_get h

end Go.Proofs.Ytoepkhkaifgddaa

namespace Go.Proofs.Ytoepkhkaifgddaa
open Go.RowKit

def minusN (s l : Nat) : Nat := s &&& (4294967295 - l)
theorem minusN_lt (s l : Nat) (hs : s < 4294967296) : minusN s l < 4294967296 := Nat.lt_of_le_of_lt Nat.and_le_left hs
theorem minusN_testBit (s l i : Nat) (hs : s < 4294967296) (hl : l < 4294967296) : (minusN s l).testBit i = (s.testBit i && !l.testBit i) := by
  unfold minusN
  have h := Nat.testBit_two_pow_sub_succ (n := 32) (x := l) hl i
  rw [Nat.testBit_and, show 4294967295 - l = 2 ^ 32 - (l + 1) by omega, h]
  by_cases hi : i < 32
  · simp [hi]
  · have := Nat.testBit_lt_two_pow (x := s) (i := i) (Nat.lt_of_lt_of_le (show s < 2 ^ 32 from hs) (Nat.pow_le_pow_right (by decide) (by omega)))
    simp [this]
/-- Offsets, by the set of new tasks. -/
def offsF (prot : Int) (fr : Nat) : Nat → List Int → Bool
  | _, [] => true
  | k, n :: l => inR n 0 16384 && (n == 0 || (decide (prot = 3) && fr.testBit k)) && offsF prot fr (k + 1) l
theorem offsF_eq (prot : Int) (a b : Nat) (ha : a < 4294967296) (hb : b < 4294967296) : ∀ (l : List Int) (k : Nat), offsF prot (minusN b a) k l = offsOk prot a b k l
  | [], _ => rfl
  | n :: l, k => by rw [offsF, offsOk, offsF_eq prot a b ha hb l, minusN_testBit _ _ _ hb ha, Bool.and_assoc (decide (prot = 3))]
theorem offsF_append (prot : Int) (fr : Nat) : ∀ (l m : List Int) (k : Nat), offsF prot fr k (l ++ m) = (offsF prot fr k l && offsF prot fr (k + l.length) m)
  | [], m, k => by simp [offsF]
  | n :: l, m, k => by
    rw [List.cons_append, offsF, offsF, offsF_append prot fr l m (k + 1), List.length_cons, show k + 1 + l.length = k + (l.length + 1) by omega]
    simp only [Bool.and_assoc]
theorem offsF_step {prot : Int} {fr : Nat} {l : List Int} {k : Nat} (hk : k < l.length) (h : offsF prot fr 0 (l.take k) = true) :
    offsF prot fr 0 (l.take (k + 1)) = (inR l[k] 0 16384 && (l[k] == 0 || (decide (prot = 3) && fr.testBit k))) := by
  have e : 0 + (l.take k).length = k := by rw [List.length_take]; omega
  rw [List.take_succ_eq_append_getElem hk, offsF_append, h, e, offsF, offsF, Bool.and_true]; rfl
theorem offsF_bad {prot : Int} {fr : Nat} {l : List Int} {k : Nat} (h : offsF prot fr 0 (l.take k) = false) : offsF prot fr 0 l = false := by
  have h0 : l = l.take k ++ l.drop k := (List.take_append_drop k l).symm
  rw [h0, offsF_append, h, Bool.false_and]
theorem edg_offs (e : Edg) (k : Nat) (h : k < e.offs.length) : (edgCells e)[3 + k]? = some (.int .i64 e.offs[k]) := by
  rw [edg_c e (3 + k) (by simp [edgInts]; omega)]
  simp [edgInts, show 3 + k = k + 3 by omega, h]
theorem edg_mp (e : Edg) (k : Nat) (ho : e.offs.length = 16) (h : k < e.mp.length) : (edgCells e)[19 + k]? = some (.int .i64 e.mp[k]) := by
  rw [edg_c e (19 + k) (by simp [edgInts]; omega)]
  simp [edgInts, show 19 + k = (16 + k) + 3 by omega, ho]
theorem edg_offsAt {w : World} {g ty : Nat} {e : Edg} (h : Blk w g ty (edgCells e).toArray) : CellsAt w g 3 (iv e.offs) := by
  intro j u hu
  have hj : j < e.offs.length := by have := (List.getElem?_eq_some_iff.1 hu).1; simpa using this
  rw [iv_get hj] at hu
  exact h.at_ ((edg_offs e j hj).trans hu)
theorem edg_mpAt {w : World} {g ty : Nat} {e : Edg} (ho : e.offs.length = 16) (h : Blk w g ty (edgCells e).toArray) : CellsAt w g 19 (iv e.mp) := by
  intro j u hu
  have hj : j < e.mp.length := by have := (List.getElem?_eq_some_iff.1 hu).1; simpa using this
  rw [iv_get hj] at hu
  exact h.at_ ((edg_mp e j ho hj).trans hu)

end Go.Proofs.Ytoepkhkaifgddaa

namespace Go.Proofs.Ytoepkhkaifgddaa
open Go.RowKit

theorem que_two (q : Que) : queCells q = [.int .i64 q.cap, .int .i64 q.pol] := rfl
theorem all_step {α : Type} {p : α → Bool} {l : List α} {k : Nat} (hk : k < l.length) (h : (l.take k).all p = true) (hp : p l[k] = true) : (l.take (k + 1)).all p = true := by
  rw [List.take_succ_eq_append_getElem hk, List.all_append, h]; simp [hp]
theorem all_bad {α : Type} {p : α → Bool} {l : List α} {k : Nat} (hk : k < l.length) (hp : p l[k] = false) : l.all p = false := by
  rw [← Bool.not_eq_true]
  intro h
  have := List.all_eq_true.1 h _ (List.getElem_mem hk)
  rw [hp] at this; cases this

/-- Is a task in a set? (The document's.) -/
def has10 (s : Nat) (i : Int) : Bool := decide (0 ≤ i) && decide (i < 32) && s.testBit i.toNat
theorem rem_bit (s k : Nat) : (((s : Int) / 2 ^ k).tmod 2 == 1) = s.testBit k := by
  have e : ((s : Int) / 2 ^ k).tmod 2 = ((s / 2 ^ k % 2 : Nat) : Int) := by
    rw [Int.tmod_eq_emod_of_nonneg (Int.ediv_nonneg (by omega) (by have : (0 : Int) < 2 ^ k := Int.pow_pos (by decide); omega))]
    norm_cast
  rw [e, Nat.testBit_eq_decide_div_mod_eq, Bool.eq_iff_iff]
  simp only [beq_iff_eq, decide_eq_true_eq]
  omega
set_option maxRecDepth 100000 in
set_option maxHeartbeats 1000000 in
theorem has10_any (s : Nat) (i : Int) (w : World) (_hs : s < 4294967296) : Calls Try.prog 44 #[.int .u32 (s : Int), .int .i64 i] w fun e w' => e = .returned (.bool (has10 s i)) ∧ w = w' := by
  have hc : i < 0 ∨ (0 ≤ i ∧ 32 ≤ i) ∨ (0 ≤ i ∧ i < 32) := by omega
  rcases hc with h | ⟨h1, h2⟩ | ⟨h1, h2⟩
  · have HI : Hid (has10 s i = false) := by show _ = _; unfold has10; simp; omega
    go_enter Try.func44, Try.ntmps44
    go_wp2
    go_ret
    exact ⟨by rw [HI.out]; rfl, rfl⟩
  · have HI : Hid (has10 s i = false) := by show _ = _; unfold has10; simp; omega
    go_enter Try.func44, Try.ntmps44
    go_wp2
    go_ret
    exact ⟨by rw [HI.out]; rfl, rfl⟩
  · obtain ⟨k, rfl⟩ : ∃ k : Nat, i = (k : Int) := ⟨i.toNat, by omega⟩
    have HI : Hid (has10 s k = s.testBit k) := by show _ = _; unfold has10; rw [Int.toNat_natCast]; simp; omega
    have hr := Lib.hid (rem_bit s k)
    go_enter Try.func44, Try.ntmps44
    go_wp2
    go_ret
    exact ⟨by rw [HI.out, ← hr.out]; rfl, rfl⟩

set_option maxRecDepth 100000 in
set_option maxHeartbeats 1000000 in
theorem rqueues_any (A : Option Addr) (c : Nat) (l : List Que) (w : World) (h : Reads w 2 A l.length (l.flatMap queCells)) (hm : l.length ≤ maxLen) :
    Calls Try.prog 80 #[.slice A l.length c] w fun e w' => e = .returned (.bool (quesOk l)) ∧ w = w' := by
  unfold maxLen at hm
  have he := h.elems rfl (fun q _ => rfl)
  have HQ : Hid (quesOk l = (decide (l.length ≤ 4) && l.all queOk)) := show _ = _ from rfl
  go_enter Try.func80, Try.ntmps80
  go_wp2
  go_loopw [3] (fun i wr => ∃ k : Nat, k ≤ l.length ∧ k ≤ 4 ∧ i = .int .i64 k ∧ (l.take k).all queOk = true ∧ w = wr) (fun i _ => l.length - (intOf i).toNat)
  case atStart => exact ⟨0, Nat.zero_le _, Nat.zero_le _, rfl, rfl, rfl⟩
  case round =>
    obtain ⟨k, hk, hk4, rfl, hall, rfl⟩ := hrel
    by_cases hlt : k < l.length
    · rcases Nat.lt_or_ge k 4 with h4 | h4
      · obtain ⟨b, o, hA, hbl, hcs⟩ := he (by omega)
        have hce := hcs k hlt
        rw [que_two] at hce
        have q0 := hce 0 _ rfl
        have q1 := hce 1 _ rfl
        have hst := Lib.hid (all_step hlt hall)
        have hbd := Lib.hid (all_bad (p := queOk) hlt)
        have hq : Hid (queOk l[k] = (inR l[k].cap 1 16 && inR l[k].pol 1 3)) := show _ = _ from rfl
        simp only [Nat.add_zero] at q0
        clear hce hcs he hall h
        generalize l[k] = q at *
        generalize q.cap = a at *
        generalize q.pol = p at *
        rw [hA]
        have hc : inR a 1 16 = false ∨ (inR a 1 16 = true ∧ inR p 1 3 = false) ∨ (inR a 1 16 = true ∧ inR p 1 3 = true) := by cases inR a 1 16 <;> cases inR p 1 3 <;> simp
        rcases hc with g1 | ⟨g1, g2⟩ | ⟨g1, g2⟩
        iterate 2
          · have HB := Lib.hid (hbd.out (by rw [hq.out]; simp [*]))
            go_wp2_with (refine (in10_any _ _ _ _).mono ?_; rintro e w' ⟨rfl, rfl⟩)
            go_ret
            exact ⟨by rw [HQ.out, HB.out]; simp, rfl⟩
        · have HS := Lib.hid (hst.out (by rw [hq.out]; simp [*]))
          go_wp2_with (refine (in10_any _ _ _ _).mono ?_; rintro e w' ⟨rfl, rfl⟩)
          go_roundw
          case rel => exact ⟨k + 1, by omega, by omega, by go_num, HS.out, by trivial⟩
          case measure => simp [intOf] <;> omega
      · clear h he
        go_wp2
        go_ret
        exact ⟨by rw [HQ.out]; simp <;> omega, rfl⟩
    · have HA : Hid (l.all queOk = true) := by show _ = _; rwa [List.take_of_length_le (by omega)] at hall
      clear hall
      go_wp2
      go_ret
      exact ⟨by rw [HQ.out, HA.out]; simp; omega, rfl⟩
end Go.Proofs.Ytoepkhkaifgddaa
