/- strings.Builder at the call's own builder: Len, WriteByte, WriteString, String. Condition: the new length is within the language's own limit. The text of steps: what script.Text computes (plain), and its walk. Condition: each step has at most a million sections, and words. -/
import Derived.Test.YtoepkhkaifgddaaProg
import Derived.Test.YtoepkhkaifgddaaReg
import Derived.Lib.Builder
import Derived.Lib.AppendStr
import Derived.Lib.UnsafeStr
import Derived.Laws.Externs
import Derived.Deep.Draws
import Derived.Test.YtoepkhkaifgddaaStLineW
import Derived.Test.YtoepkhkaifgddaaStGreat
namespace Go.Proofs.Ytoepkhkaifgddaa
open Go.RowKit

theorem bld_under : Try.prog.underlying 113 = some (.pointer 116) := by kernel_rfl
theorem uns_under : Try.prog.underlying 156 = some .unsafePointer := by kernel_rfl
theorem bld_size : (Try.prog.info? 116).map (·.size) = some 2 := by kernel_rfl
theorem bld_lies : liesAt Try.prog Try.prog.depth 116 (2 / Try.prog.cellsOf 116) 0 116 1 = true := by kernel_rfl
theorem byte_parts : ∃ i, Try.prog.info? 5 = some i ∧ i.zero = some (.int .u8 0) ∧ i.size = 1 ∧ i.bytes = 1 :=
  info_parts (by kernel_rfl : (Try.prog.info? 5).map (fun i => (i.zero, i.size, i.bytes)) = some (some (.int .u8 0), 1, 1))
/-- The call's own builder, that holds bs. -/
abbrev BldAt (B b : Nat) (bs : List Value) (w : World) : Prop := Lib.IsBuilder 116 5 B b bs w

set_option maxHeartbeats 1000000 in
set_option maxRecDepth 100000 in
theorem bcheck_used (b : Nat) (w : World) (h0 : w.cell? ⟨b, 0, none⟩ = some (.pointer (some ⟨b, 0, none⟩))) :
    Calls Try.prog 87 #[.pointer (some ⟨b, 0, none⟩)] w fun e w' => e = .returned (.tuple #[]) ∧ w' = w := by
  obtain ⟨j, hj, _⟩ := Option.map_eq_some_iff.1 bld_size
  go_enter Try.func87, Try.ntmps87
  go_wp2
  rw [Lib.run_neq_ptr_same w _ bld_under hj]
  go_wp2
  go_end0
  exact ⟨rfl, rfl⟩
set_option maxHeartbeats 1000000 in
set_option maxRecDepth 100000 in
theorem bcheck_fresh (b : Nat) (w : World) (h0 : w.cell? ⟨b, 0, none⟩ = some (.pointer none)) (hsh : w.shape? b = some (116, 2)) (hfz : w.frozen? ⟨b, 0, none⟩ = false) :
    Calls Try.prog 87 #[.pointer (some ⟨b, 0, none⟩)] w fun e w' => e = .returned (.tuple #[]) ∧ w' = w.setCell ⟨b, 0, none⟩ (.pointer (some ⟨b, 0, none⟩)) := by
  obtain ⟨j, hj, hjs⟩ := Option.map_eq_some_iff.1 bld_size
  go_enter Try.func87, Try.ntmps87
  go_wp2
  rw [Lib.run_to_unsafe w ⟨b, 0, none⟩ bld_under uns_under hj (by rw [hjs]; decide) hsh (Nat.zero_lt_succ 1)]
  simp only [Result.andThen]
  rw [Oper.upon_value]
  go_wp2
  rw [run_callFunc_extern Try.func93 (by kernel_rfl) (by kernel_rfl) (by kernel_rfl) (e := Extern.AbiNoEscape.same) (by kernel_rfl)]
  rw [Lib.run_noEscape]
  simp only [Result.andThen]
  rw [Oper.upon_value]
  go_wp2
  rw [Lib.run_from_unsafe w ⟨b, 0, none⟩ uns_under bld_under hj hsh bld_lies]
  simp only [Result.andThen]
  rw [Oper.upon_value]
  go_wp2
  go_end0
  exact ⟨rfl, rfl⟩
theorem bcheck_any (B b : Nat) (bs : List Value) (w : World) (h : BldAt B b bs w) :
    Calls Try.prog 87 #[.pointer (some ⟨b, 0, none⟩)] w fun e w' => e = .returned (.tuple #[]) ∧ (Lib.BuilderAt 116 5 B b (.pointer (some ⟨b, 0, none⟩)) bs w' ∧ Below B w w') := by
  rcases h with h | h
  · refine (bcheck_fresh b w h.cell0 h.shape h.frozen0).mono ?_
    rintro e w' ⟨rfl, rfl⟩
    exact ⟨rfl, h.used _, (Below.refl B w).setCell (p := ⟨b, 0, none⟩) h.1 _⟩
  · refine (bcheck_used b w h.cell0).mono ?_
    rintro e w' ⟨rfl, rfl⟩
    exact ⟨rfl, h, Below.refl B _⟩

set_option maxHeartbeats 1000000 in
set_option maxRecDepth 100000 in
theorem blen_any (B b : Nat) (bs : List Value) (w : World) (h : BldAt B b bs w) :
    Calls Try.prog 61 #[.pointer (some ⟨b, 0, none⟩)] w fun e w' => e = .returned (.int .i64 bs.length) ∧ w' = w := by
  obtain ⟨p, hB, v, hbk, hown, hne⟩ : ∃ p, Lib.BuilderAt 116 5 B b p bs w := by
    rcases h with h | h
    · exact ⟨_, h⟩
    · exact ⟨_, h⟩
  obtain ⟨ao, cap, rfl⟩ : ∃ ao cap, v = .slice ao bs.length cap := by
    rcases hown.2 with ⟨hv, h0⟩ | ⟨g, cap, cur, hv, _⟩
    · exact ⟨none, 0, by rw [hv, h0]⟩
    · exact ⟨_, _, hv⟩
  have c1 : w.cell? ⟨b, 1, none⟩ = some (.slice ao bs.length cap) := by rw [Lib.cell_of_heap hbk]; rfl
  go_enter Try.func61, Try.ntmps61
  go_wp2
  go_ret
  exact ⟨rfl, rfl⟩

set_option maxHeartbeats 2000000 in
set_option maxRecDepth 100000 in
theorem bbyte_any (B b : Nat) (bs : List Value) (c : Int) (w : World) (h : BldAt B b bs w) (hlen : bs.length + 1 ≤ 140737488355328) (hBw : B ≤ w.heap.size) :
    Calls Try.prog 63 #[.pointer (some ⟨b, 0, none⟩), .int .u8 c] w fun e w' => e = .returned .nilIface ∧ (BldAt B b (bs ++ [.int .u8 c]) w' ∧ Below B w w') := by
  obtain ⟨i0, hi, hz0, hz1, hz2⟩ := byte_parts
  have HC := Lib.hid (bcheck_any B b bs w h)
  go_enter Try.func63, Try.ntmps63
  go_wp2_with fail
  refine HC.out.mono ?_
  rintro e w1 ⟨rfl, h1, hb1⟩
  obtain ⟨hB, v, hbk, hown, hne⟩ := h1
  have c0 : w1.cell? ⟨b, 0, none⟩ = some (.pointer (some ⟨b, 0, none⟩)) := by rw [Lib.cell_of_heap hbk]; rfl
  have c1 : w1.cell? ⟨b, 1, none⟩ = some v := by rw [Lib.cell_of_heap hbk]; rfl
  go_wp2_with (at_builtin; refine wpList_append_own _ rfl _ _ 114 rfl B 5 i0 (.int .u8 0) 1 1 rfl hi hz0 hz1 hz2 rfl (by decide) _ _ _ rfl (hown.alloc _) ⟨w1.heap.size, 0, none⟩ 1 1 [.int .u8 c] rfl rfl ?c1 ?c2 ?c3 ?c4 ?c5 ?_)
  case c1 =>
    intro j u hj
    match j, hj with
    | 0, hj => simp at hj; subst hj; simp [Addr.add]
  case c2 => intro u hu; simp at hu; subst hu; rfl
  case c3 => unfold maxLen; omega
  case c4 => omega
  case c5 => have := hb1.size; simp; omega
  intro v' w2 hown' hgrow _
  have hlt : b < w1.heap.size := by
    rcases Nat.lt_or_ge b w1.heap.size with h' | h'
    · exact h'
    · simp [Array.getElem?_eq_none h'] at hbk
  have hb2 : w2.heap[b]? = some (.cells #[.pointer (some ⟨b, 0, none⟩), v] 116 (0, 0)) := by
    rw [hgrow.block b (by simp; omega) (fun e => hne e.symm), Lib.alloc_old w1 _ b hlt]
    exact hbk
  have d0 : w2.cell? ⟨b, 0, none⟩ = some (.pointer (some ⟨b, 0, none⟩)) := by rw [Lib.cell_of_heap hb2]; rfl
  have d1 : w2.cell? ⟨b, 1, none⟩ = some v := by rw [Lib.cell_of_heap hb2]; rfl
  have f1 : w2.frozen? ⟨b, 1, none⟩ = false := Lib.frozen_of_heap hb2 1
  obtain ⟨g, cap, rfl⟩ : ∃ g cap, v' = .slice (some ⟨g, 0, none⟩) (bs.length + 1) cap := by
    rcases hown'.2 with ⟨_, h0⟩ | ⟨g, cap, cur, hv, _⟩
    · omega
    · exact ⟨g, cap, hv⟩
  go_wp2
  go_ret
  refine ⟨rfl, .inr ?_, ?_⟩
  · exact Lib.BuilderAt.put (T := 116) (e := 5) hB hb2 (bs' := bs ++ [.int .u8 c]) (by simpa using hown') (by decide)
  · exact ((hb1.alloc (by have := hb1.size; omega) _).grown hgrow (by have := hb1.size; simp; omega) (fun k hk => (hown.lt k hk).1)).setCell (p := ⟨b, 1, none⟩) hB _

set_option maxHeartbeats 2000000 in
set_option maxRecDepth 100000 in
theorem bstr_any (B b : Nat) (bs : List Value) (s : ByteArray) (w : World) (h : BldAt B b bs w) (hlen : bs.length + s.size ≤ 140737488355328) (hBw : B ≤ w.heap.size) :
    Calls Try.prog 62 #[.pointer (some ⟨b, 0, none⟩), .string s] w fun e w' => e = .returned (.tuple #[.int .i64 s.size, .nilIface]) ∧ (BldAt B b (bs ++ Lib.strCells s) w' ∧ Below B w w') := by
  obtain ⟨i0, hi, hz0, hz1, hz2⟩ := byte_parts
  have HC := Lib.hid (bcheck_any B b bs w h)
  go_enter Try.func62, Try.ntmps62
  go_wp2_with fail
  refine HC.out.mono ?_
  rintro e w1 ⟨rfl, h1, hb1⟩
  obtain ⟨hB, v, hbk, hown, hne⟩ := h1
  have c0 : w1.cell? ⟨b, 0, none⟩ = some (.pointer (some ⟨b, 0, none⟩)) := by rw [Lib.cell_of_heap hbk]; rfl
  have c1 : w1.cell? ⟨b, 1, none⟩ = some v := by rw [Lib.cell_of_heap hbk]; rfl
  go_wp2_with (at_builtin; refine Lib.wpList_append_own_string _ rfl _ _ 114 9 rfl B 5 i0 rfl rfl hi hz0 hz1 hz2 _ _ _ rfl hown s rfl ?c3 ?c4 ?c5 ?_)
  case c3 => unfold maxLen; omega
  case c4 => omega
  case c5 => have := hb1.size; omega
  intro v' w2 hown' hgrow _
  have hlt : b < w1.heap.size := by
    rcases Nat.lt_or_ge b w1.heap.size with h' | h'
    · exact h'
    · simp [Array.getElem?_eq_none h'] at hbk
  have hb2 : w2.heap[b]? = some (.cells #[.pointer (some ⟨b, 0, none⟩), v] 116 (0, 0)) := by
    rw [hgrow.block b hlt (fun e => hne e.symm)]
    exact hbk
  have d0 : w2.cell? ⟨b, 0, none⟩ = some (.pointer (some ⟨b, 0, none⟩)) := by rw [Lib.cell_of_heap hb2]; rfl
  have d1 : w2.cell? ⟨b, 1, none⟩ = some v := by rw [Lib.cell_of_heap hb2]; rfl
  have f1 : w2.frozen? ⟨b, 1, none⟩ = false := Lib.frozen_of_heap hb2 1
  obtain ⟨ao, n', cap, rfl⟩ : ∃ ao n' cap, v' = .slice ao n' cap := by
    rcases hown'.2 with ⟨hv, _⟩ | ⟨g, cap, cur, hv, _⟩
    · exact ⟨_, _, _, hv⟩
    · exact ⟨_, _, _, hv⟩
  go_wp2
  go_ret2
  refine ⟨rfl, .inr ?_, ?_⟩
  · exact Lib.BuilderAt.put (T := 116) (e := 5) hB hb2 (bs' := bs ++ Lib.strCells s) (by simpa [Lib.strCells_length] using hown') (by decide)
  · exact (hb1.grown hgrow (by have := hb1.size; omega) (fun k hk => (hown.lt k hk).1)).setCell (p := ⟨b, 1, none⟩) hB _

set_option maxHeartbeats 1000000 in
set_option maxRecDepth 100000 in
theorem bstring_some (B b : Nat) (l : List UInt8) (w : World) (h : BldAt B b (Lib.byteCells l) w) (h0 : l ≠ []) :
    Calls Try.prog 64 #[.pointer (some ⟨b, 0, none⟩)] w fun e w' => e = .returned (.string ⟨l.toArray⟩) ∧ Below B w w' := by
  obtain ⟨p, hB, v, hbk, hown, hne⟩ : ∃ p, Lib.BuilderAt 116 5 B b p (Lib.byteCells l) w := by
    rcases h with h | h
    · exact ⟨_, h⟩
    · exact ⟨_, h⟩
  have hl0 : l.length ≠ 0 := by simpa using h0
  rw [Lib.byteCells_length] at hown
  obtain ⟨g, cap, cur, rfl, hbg, hg, hnc, hcm, hcs, htake⟩ : ∃ g cap cur, v = .slice (some ⟨g, 0, none⟩) l.length cap ∧ B ≤ g ∧ w.heap[g]? = some (.cells cur 5 (0, 0)) ∧ l.length ≤ cap ∧ cap ≤ maxLen ∧ cur.size = cap * 1 ∧ cur.toList.take (l.length * 1) = Lib.byteCells l := by
    rcases hown.2 with ⟨_, hz⟩ | ⟨g, cap, cur, hv, r⟩
    · exact absurd hz hl0
    · exact ⟨g, cap, cur, hv, r⟩
  have c1 : w.drew.cell? ⟨b, 1, none⟩ = some (.slice (some ⟨g, 0, none⟩) l.length cap) := by
    have : w.drew.heap[b]? = some (.cells #[p, .slice (some ⟨g, 0, none⟩) l.length cap] 116 (0, 0)) := hbk
    rw [Lib.cell_of_heap this]; rfl
  have hSD : (Builtin.unsafeSliceData_ #[114] 147 #[.slice (some ⟨g, 0, none⟩) l.length cap]).run Try.prog w.drew = .ok (.pointer (some ⟨g, 0, none⟩)) w.drew :=
    Lib.run_unsafeSliceData_row _ _ _ _ _ _ (by omega)
  have hUS : (Builtin.unsafeString_ #[147, 3] 9 #[.pointer (some ⟨g, 0, none⟩), .int .i64 l.length]).run Try.prog w.drew = .ok (.string ⟨l.toArray⟩) (w.drew.freeze ⟨g, 0, none⟩ l.length) := by
    refine Lib.run_unsafeString_row w.drew 147 3 9 5 rfl (by kernel_rfl) g cur.size (by have hg' : w.drew.heap[g]? = some (.cells cur 5 (0, 0)) := hg; simp [World.shape?, hg']) l h0 (by omega) (by unfold maxLen at hcm; omega) ?_
    intro j x hx
    have := hown.cells (g := g) rfl j (.int .u8 x.toNat) (by simp [Lib.byteCells, hx])
    exact this
  go_enter Try.func64, Try.ntmps64
  go_wp2
  go_region
  all_goals (go_wp2; go_ret; exact ⟨rfl, Lib.below_freeze (Below.drew (Below.refl B w)) (p := ⟨g, 0, none⟩) hbg _⟩)
set_option maxHeartbeats 2000000 in
set_option maxRecDepth 100000 in
/-- Of a builder that was never written to. -/
theorem bstring_nil (B b : Nat) (p : Value) (w : World) (hbk : w.heap[b]? = some (.cells #[p, .slice none 0 0] 116 (0, 0))) :
    Calls Try.prog 64 #[.pointer (some ⟨b, 0, none⟩)] w fun e w' => e = .returned (.string ⟨#[]⟩) ∧ Below B w w' := by
  have hUS : ∀ (W : World) (q : Option Addr), (Builtin.unsafeString_ #[147, 3] 9 #[.pointer q, .int .i64 0]).run Try.prog W = .ok (.string .empty) W := fun W q => Lib.run_unsafeString_none W _ _ _ q
  have c1 : w.drew.cell? ⟨b, 1, none⟩ = some (.slice none 0 0) := by
    have : w.drew.heap[b]? = some (.cells #[p, .slice none 0 0] 116 (0, 0)) := hbk
    rw [Lib.cell_of_heap this]; rfl
  have hSD : (Builtin.unsafeSliceData_ #[114] 147 #[.slice none 0 0]).run Try.prog w.drew = .ok (.pointer none) w.drew := rfl
  go_enter Try.func64, Try.ntmps64
  go_wp2
  go_region
  all_goals (go_wp2; go_ret; exact ⟨rfl, Below.drew (Below.refl B w)⟩)
end Go.Proofs.Ytoepkhkaifgddaa

namespace Go.Proofs.Ytoepkhkaifgddaa
open Go.RowKit

def textF : List Stp → List UInt8 → Option (List UInt8)
  | [], acc => some acc
  | s :: r, acc => if lineT s = [] ∨ 65536 < acc.length + (lineT s).length + 1 then none else textF r (acc ++ (lineT s ++ [10]))
def textS (l : List Stp) : Option (List UInt8) := if 512 < l.length then none else textF l []
def textV : Option (List UInt8) → Ending
  | some t => .returned (.tuple #[strOf t, .int .i64 0])
  | none => .returned (.tuple #[strOf [], .int .i64 340])
theorem stNil {S : ByteArray} {t : List UInt8} (h : strOf t = .string S) (ht : t = []) : S.toList = [] := by
  unfold strOf at h
  cases h
  rw [ByteArray.toList_eq, ht]
theorem stCons {S : ByteArray} {t : List UInt8} (h : strOf t = .string S) (ht : t ≠ []) : S.toList ≠ [] := by
  unfold strOf at h
  cases h
  rw [ByteArray.toList_eq]
  simpa using ht
theorem bldAt_keep {T e : TypeId} {B b : Nat} {p : Value} {bs : List Value} {w w' : World} (h : Lib.BuilderAt T e B b p bs w) (k : Keep [] w w') : Lib.BuilderAt T e B b p bs w' :=
  have hlt := Lib.BuilderAt.lt h
  match h with
  | ⟨hB, v, hb, hown, hne⟩ => ⟨hB, v, (k.block b hlt (by simp)).trans hb, own_keep0 hown k, hne⟩
theorem bld_keep {B b : Nat} {bs : List Value} {w w' : World} (h : BldAt B b bs w) (k : Keep [] w w') : BldAt B b bs w' := by
  rcases h with h | h
  · exact .inl (bldAt_keep h k)
  · exact .inr (bldAt_keep h k)
theorem lineT_len {s : Stp} (h1 : s.secs.length ≤ 1000000) (h2 : s.words.length ≤ 1000000) : (lineT s).length ≤ 200000000 := by
  unfold lineT
  split
  · have h3 := shp_wlen s.kind
    have h4 := shp_size s.kind
    have h5 := partsT_len s (shp s.kind).2 (shp s.kind).2.size
    have h6 : (shp s.kind).2.size * (11 + s.secs.length * 33 + s.words.length * 9) ≤ 3 * (11 + s.secs.length * 33 + s.words.length * 9) := Nat.mul_le_mul_right _ h4
    rw [List.length_append, bytesOf_len]
    omega
  · simp
theorem strCells_of (l : List UInt8) : Lib.strCells { data := l.toArray } = Lib.byteCells l := by simp [Lib.strCells, Lib.byteCells]
theorem byteCells_add (l m : List UInt8) : Lib.byteCells (l ++ m) = Lib.byteCells l ++ Lib.byteCells m := by simp [Lib.byteCells]

set_option maxRecDepth 100000 in
set_option maxHeartbeats 4000000 in
theorem text_any34 (A : Option Addr) (c : Nat) (ms : List (Stp × StpV)) (w : World) (h : StepsAt w A ms) (hl : ∀ s ∈ stps ms, s.secs.length ≤ 1000000 ∧ s.words.length ≤ 1000000) :
    Calls Try.prog 28 #[.slice A ms.length c] w fun e w' => e = textV (textS (stps ms)) ∧ Keep [] w w' := by
  have l1 := h.len
  have hs := h.step
  have he := h.each
  unfold maxLen at l1
  have hsl : (stps ms).length = ms.length := by simp [stps]
  by_cases hbig : 512 < ms.length
  · have hq : decide ((512 : Int) < (ms.length : Int)) = true := decide_eq_true (by omega)
    have hP : Hid (textS (stps ms) = none) := if_pos (by omega)
    clear hbig
    go_enter Try.func28, Try.ntmps28
    go_wp2
    go_ret2
    rw [hP.out]
    exact ⟨rfl, Keep.refl _ _⟩
  · have hq : decide ((512 : Int) < (ms.length : Int)) = false := decide_eq_false (by omega)
    have hml : ms.length ≤ 512 := by omega
    have hP : Hid (textS (stps ms) = textF (stps ms) []) := if_neg (by omega)
    generalize hB : w.heap.size = B at *
    have hb0 : BldAt B B [] (w.alloc (.cells #[.pointer none, .slice none 0 0] 116)) := by rw [← hB]; exact Lib.fresh_isBuilder _ _ w
    have hbl0 : Below B w (w.alloc (.cells #[.pointer none, .slice none 0 0] 116)) := (Below.refl B w).alloc (by omega) _
    clear hbig
    go_enter Try.func28, Try.ntmps28
    go_wp2
    go_loopw [13] (fun v13 wr => ∃ (k : Nat) (acc : List UInt8), k ≤ ms.length ∧ v13 = .int .i64 (k : Int) ∧ textF (stps ms) [] = textF ((stps ms).drop k) acc ∧ acc.length ≤ 65536 ∧ BldAt B B (Lib.byteCells acc) wr ∧ Below B w wr ∧ (acc = [] → Blk wr B 116 #[.pointer none, .slice none 0 0])) (fun v13 _ => ms.length - (intOf v13).toNat)
    case atStart => exact ⟨0, [], Nat.zero_le _, rfl, rfl, by decide, hb0, hbl0, fun _ => by rw [← hB]; exact Blk.new _ _ _⟩
    case round =>
      obtain ⟨k, acc, hk, rfl, heq, hal, hbd, hbw, hbn⟩ := hrel
      have HBN := Lib.hid hbn
      have HEQ := Lib.hid heq
      have HBD := Lib.hid hbd
      have HBW := Lib.hid hbw
      have hsz := hbw.size
      clear heq hbd hbw hbn
      by_cases hlt : k < ms.length
      · obtain ⟨b, o, hA, hbA, hc⟩ := hs (by omega)
        have hlk : k < (stps ms).length := by omega
        have hlm := hl ms[k].1 (List.mem_map.2 ⟨ms[k], List.getElem_mem hlt, rfl⟩)
        have hm := (he ms[k] (List.getElem_mem hlt)).keep0 (Keep.of_below (by rw [hB]; exact HBW.out))
        have hdr : Hid (textF (stps ms) [] = if lineT ms[k].1 = [] ∨ 65536 < acc.length + (lineT ms[k].1).length + 1 then none else textF ((stps ms).drop (k + 1)) (acc ++ (lineT ms[k].1 ++ [10]))) := by
          show _ = _
          rw [HEQ.out, List.drop_eq_getElem_cons hlk, show (stps ms)[k] = ms[k].1 by simp [stps]]
          rfl
        have ci := hc k hlt
        have hcell := fun j u hu => (HBW.out.cell (p := ⟨b, o + k * 5 + j, none⟩) hbA).trans (ci j u hu)
        have p0 : (0 : Int) ≤ (k : Int) := by omega
        have p1 : (k : Int) < (ms.length : Int) := by omega
        clear ci hc HEQ
        generalize ms[k] = m at *
        obtain ⟨s, v⟩ := m
        dsimp only at hdr hm hlm
        have c0 := hcell 0 _ rfl
        have c1 := hcell 1 _ rfl
        have c2 := hcell 2 _ rfl
        have c3 := hcell 3 _ rfl
        have c4 := hcell 4 _ rfl
        simp only [Nat.add_zero] at c0
        clear hcell
        rw [hA]
        have HA := Lib.hid hA
        clear hA
        have kw1 := (Keep.refl [] wr).alloc (.cells #[.int .i64 s.kind, .int .i64 s.a, .int .i64 s.n, .slice v.sa s.secs.length v.sc, .slice v.wa s.words.length v.wc] 45)
        have HL := Lib.hid (line_any s v _ (hm.keep0 kw1) hlm.1 hlm.2)
        have HK1 := Lib.hid kw1
        clear hm kw1
        have htl := lineT_len hlm.1 hlm.2
        obtain ⟨S, hS, hSz, hSc⟩ : ∃ S : ByteArray, strOf (lineT s) = .string S ∧ S.size = (lineT s).length ∧ Lib.strCells S = Lib.byteCells (lineT s) := ⟨{ data := (lineT s).toArray }, rfl, by simp [ByteArray.size], strCells_of _⟩
        rw [hS] at HL
        have hS9 := Lib.hid hS
        clear hS
        generalize lineT s = t at *
        have hsz2 : B ≤ wr.heap.size := by omega
        by_cases ht : t = []
        · have hz : S.toList = [] := stNil hS9.out ht
          have HPE : Hid (textS (stps ms) = none) := by
            show _ = _
            rw [hP.out, hdr.out, if_pos (.inl ht)]
          clear ht
          go_wp2_with fail
          refine HL.out.mono ?_
          rintro e w2 ⟨rfl, k2⟩
          have HK2 := Lib.hid (HBW.out.trans ((HK1.out.then k2).below.mono hsz2))
          clear k2
          go_wp2
          go_ret2
          rw [HPE.out]
          exact ⟨rfl, Keep.of_below (by rw [hB]; exact HK2.out)⟩
        · have hz : S.toList ≠ [] := stCons hS9.out ht
          have hz2 : S.toList.isEmpty = false := by simpa using hz
          have hln : (Lib.byteCells acc).length = acc.length := Lib.byteCells_length acc
          have HLN := fun W h => Lib.hid (blen_any B B (Lib.byteCells acc) W h)
          rw [hln] at HLN
          by_cases hlong : 65536 < acc.length + t.length + 1
          · have HPE : Hid (textS (stps ms) = none) := by
              show _ = _
              rw [hP.out, hdr.out, if_pos (.inr hlong)]
            have hq3 : (65536 - (S.size : Int) - 1 < (acc.length : Int)) := by omega
            clear ht hlong
            go_wp2_with fail
            refine HL.out.mono ?_
            rintro e w2 ⟨rfl, k2⟩
            have HK2 := Lib.hid (HBW.out.trans ((HK1.out.then k2).below.mono hsz2))
            have HB2 := HLN w2 (bld_keep HBD.out (HK1.out.then k2))
            clear k2
            go_wp2_with fail
            refine HB2.out.mono ?_
            rintro e w3 ⟨rfl, rfl⟩
            go_wp2
            go_ret2
            rw [HPE.out]
            exact ⟨rfl, Keep.of_below (by rw [hB]; exact HK2.out)⟩
          · have hq3 : ¬ (65536 - (S.size : Int) - 1 < (acc.length : Int)) := by omega
            have hE : Hid (textF (stps ms) [] = textF ((stps ms).drop (k + 1)) (acc ++ (t ++ [10]))) := by
              show _ = _
              rw [hdr.out, if_neg (by simp only [not_or]; exact ⟨ht, hlong⟩)]
            have hal2 : (acc ++ (t ++ [10])).length ≤ 65536 := by simp; omega
            have hss : S.size ≤ 65536 := by omega
            clear ht hlong
            go_wp2_with fail
            refine HL.out.mono ?_
            rintro e w2 ⟨rfl, k2⟩
            have HK2 := Lib.hid (HBW.out.trans ((HK1.out.then k2).below.mono hsz2))
            have hb2 := bld_keep HBD.out (HK1.out.then k2)
            have HB2 := HLN w2 hb2
            have HW2 := Lib.hid (bstr_any B B (Lib.byteCells acc) S w2 hb2 (by rw [hln]; omega) (by have := HK2.out.size; omega))
            clear k2 hb2
            go_wp2_with fail
            refine HB2.out.mono ?_
            rintro e w3 ⟨rfl, rfl⟩
            go_wp2_with (refine HW2.out.mono ?_)
            rintro e w4 ⟨rfl, hb4, k4⟩
            have HK4 := Lib.hid (HK2.out.trans k4)
            have HW4 := Lib.hid (bbyte_any B B _ 10 w4 hb4 (by rw [List.length_append, hln, Lib.strCells_length]; omega) (by have := HK4.out.size; omega))
            clear hb4 k4
            go_wp2_with (refine HW4.out.mono ?_)
            rintro e w5 ⟨rfl, hb5, k5⟩
            have HK5 := Lib.hid (HK4.out.trans k5)
            have HB5 : Hid (BldAt B B (Lib.byteCells (acc ++ (t ++ [10]))) w5) := by
              show BldAt _ _ _ _
              rw [byteCells_add, byteCells_add, ← hSc, ← List.append_assoc]
              exact hb5
            clear hb5 k5
            go_wp2
            go_roundw
            case rel => exact ⟨k + 1, acc ++ (t ++ [10]), by omega, by go_num, hE.out, hal2, HB5.out, HK5.out, fun h => by simp at h⟩
            case measure => simp [intOf]; omega
      · have hE : Hid (textS (stps ms) = some acc) := by
          show _ = _
          rw [hP.out, HEQ.out, List.drop_eq_nil_iff.2 (by omega)]
          rfl
        have HS : Hid (Calls Try.prog 64 #[.pointer (some ⟨B, 0, none⟩)] wr fun e w' => e = .returned (strOf acc) ∧ Below B wr w') := by
          by_cases h0 : acc = []
          · subst h0
            exact bstring_nil B B _ wr (HBN.out rfl)
          · exact bstring_some B B acc wr HBD.out h0
        go_wp2_with (refine HS.out.mono ?_)
        rintro e w2 ⟨rfl, k2⟩
        have HK2 := Lib.hid (HBW.out.trans k2)
        clear k2
        go_wp2
        go_ret2
        rw [hE.out]
        exact ⟨rfl, Keep.of_below (by rw [hB]; exact HK2.out)⟩
end Go.Proofs.Ytoepkhkaifgddaa
