/- The law's bench at first, and its test of what is too much (law08), walked. No condition. An argument that is a row of the law's calls (law08), opened. No condition. The law's bench at first (law08's start), walked. No condition. -/
import Derived.Test.YteanpgkonhdbpaaBkOne
import Derived.Test.YteanpgkonhdbpaaLaw
import Derived.Test.YteanpgkonhdbpaaFlashNew
import Derived.Test.YteanpgkonhdbpaaRefNew
namespace Go.Proofs.Yteanpgkonhdbpaa
open Go.RowKit

def bopRow (l : List (BOp × BOpV)) : List Value := l.flatMap bopCells
structure BOpsAt (w : World) (A : Option Addr) (ms : List (BOp × BOpV)) : Prop where
  rows : Reads w 4 A ms.length (bopRow ms)
  each : ∀ m ∈ ms, BOpAt w m
  len : ms.length ≤ maxLen
theorem BOpsAt.keep0 {w w' : World} {A : Option Addr} {ms : List (BOp × BOpV)} (h : BOpsAt w A ms) (k : Keep [] w w') : BOpsAt w' A ms := ⟨h.rows.keep0 k, fun m hm => (h.each m hm).keep0 k, h.len⟩
theorem bopRow_at (l : List (BOp × BOpV)) : ∀ (k : Nat) (hk : k < l.length) (j : Nat), j < 4 → (bopRow l)[k * 4 + j]? = (bopCells l[k])[j]? := by
  induction l with
  | nil => intro k hk; exact absurd hk (by simp)
  | cons e l ih =>
    intro k hk j hj
    rw [show bopRow (e :: l) = bopCells e ++ bopRow l from rfl]
    cases k with
    | zero => rw [List.getElem?_append_left (by simp; omega)]; simp
    | succ k =>
      rw [List.getElem?_append_right (by simp; omega)]
      have : (k + 1) * 4 + j - (bopCells e).length = k * 4 + j := by simp; omega
      rw [this]
      simpa using ih k (by simpa using hk) j hj
theorem BOpsAt.op {w : World} {A : Option Addr} {ms : List (BOp × BOpV)} (h : BOpsAt w A ms) (h0 : 0 < ms.length) : ∃ b o, A = some ⟨b, o, none⟩ ∧ b < w.heap.size ∧ ∀ k, (hk : k < ms.length) → CellsAt w b (o + k * 4) (bopCells ms[k]) := by
  obtain ⟨b, o, e, hb, hc⟩ := h.rows.addr h0
  refine ⟨b, o, e, hb, fun k hk j u hu => ?_⟩
  have hj : j < 4 := (List.getElem?_eq_some_iff.1 hu).1
  have := hc (k * 4 + j) u (by rw [bopRow_at ms k hk j hj]; exact hu)
  rw [Nat.add_assoc]
  exact this

def RetGr (w : World) (ms : List (BOp × BOpV)) (e : Ending) (w' : World) : Prop := ∃ r, e = .returned (.bool r) ∧ (r = false → ms.length ≤ 60 ∧ ∀ m ∈ ms, m.1.l.length ≤ 40) ∧ Keep [] w w'
set_option maxRecDepth 100000 in
set_option maxHeartbeats 2000000 in
theorem great_any08 (A : Option Addr) (c : Nat) (ms : List (BOp × BOpV)) (w : World) (h : BOpsAt w A ms) :
    Calls Try.prog 34 #[.slice A ms.length c] w (RetGr w ms) := by
  have l1 := h.len
  have hs := h.op
  have hlm : ∀ m ∈ ms, m.1.l.length ≤ maxLen ∨ True := fun _ _ => .inr trivial
  unfold maxLen at l1
  clear h hlm
  go_enter Try.func34, Try.ntmps34
  go_wp2
  go_loopw [3] (fun i wr => ∃ k : Nat, k ≤ 60 ∧ k ≤ ms.length ∧ i = .int .i64 k ∧ (∀ m ∈ ms.take k, m.1.l.length ≤ 40) ∧ Keep [] w wr) (fun i _ => 60 - (intOf i).toNat)
  case atStart => exact ⟨0, by omega, Nat.zero_le _, rfl, (fun m hm => by simp at hm), Keep.refl _ _⟩
  case round =>
    obtain ⟨k, hk9, hk2, rfl, hany, hkeep⟩ := hrel
    by_cases hlk : k < ms.length
    · have q1 : ((k : Int) < (ms.length : Int)) := by omega
      by_cases h6 : k < 60
      · have q2 : ((k : Int) < 60) := by omega
        obtain ⟨b, o, hA, hb, hc⟩ := hs (by omega)
        have ci := hc k hlk
        have hst : Hid (ms[k].1.l.length ≤ 40 → ∀ m ∈ ms.take (k + 1), m.1.l.length ≤ 40) := fun e m hm => by
          rw [List.take_succ_eq_append_getElem hlk] at hm
          rcases List.mem_append.1 hm with hm | hm
          · exact hany m hm
          · simp at hm; rw [hm]; exact e
        have c3 := (hkeep.cell (p := ⟨b, o + k * 4 + 3, none⟩) hb (by simp)).trans (ci 3 _ rfl)
        have k0 : (0 : Int) ≤ (k : Int) := by omega
        have HKp := Lib.hid hkeep
        have HA := Lib.hid hA
        clear hc ci hany hs hkeep
        generalize ms[k] = m at *
        obtain ⟨s, v⟩ := m
        simp only at c3 hst
        rw [hA]
        by_cases hg : 40 < s.l.length
        · have g1 : (40 : Int) < (s.l.length : Int) := by omega
          go_wp2
          go_ret
          exact ⟨true, rfl, fun e => (by cases e), HKp.out⟩
        · have g1 : ¬ (40 : Int) < (s.l.length : Int) := by omega
          have HR := Lib.hid (hst.out (by omega))
          go_wp2
          go_roundw
          case rel => exact ⟨k + 1, by omega, by omega, by go_num, HR.out, HKp.out⟩
          case measure => simp [intOf] <;> omega
      · have q2 : ¬ ((k : Int) < 60) := by omega
        have q3 : (60 : Int) < (ms.length : Int) := by omega
        have HKp := Lib.hid hkeep
        clear hs hany hkeep
        go_wp2
        go_ret
        exact ⟨true, by simp, fun e => (by cases e), HKp.out⟩
    · have q1 : ¬ ((k : Int) < (ms.length : Int)) := by omega
      have q3 : ¬ (60 : Int) < (ms.length : Int) := by omega
      have hall : Hid (∀ m ∈ ms, m.1.l.length ≤ 40) := fun m hm => hany m (by rw [List.take_of_length_le (by omega)]; exact hm)
      have HKp := Lib.hid hkeep
      clear hs hany hkeep
      go_wp2
      go_ret
      exact ⟨false, by simp, fun _ => ⟨by omega, hall.out⟩, HKp.out⟩
end Go.Proofs.Yteanpgkonhdbpaa

namespace Go.Proofs.Yteanpgkonhdbpaa
open Go.ChangeShapes Go.WideShapes Go.ChangeAt Go.RowKit Go.Deep

section
variable {H : Type} {enc : TypeId × Value → H} {w : World} {base : Nat} {spare : Nat → Bool} {held : Bool}
set_option maxRecDepth 100000 in
theorem rd_bop {n : Nat} {cs : List Value} {x : DataW H × List MemPlace} (h : DataW.trod enc Try.prog w base spare held n 80 cs = some x) : ∃ m : BOp × BOpV, cs = bopCells m ∧ BOpAt w m := by
  obtain ⟨xs, m, _, _, hlen, hxl, hf⟩ := DataW.trod_struct Try.underlying80 h
  have hC : Try.prog.cellsOf 80 = 4 := by kernel_rfl
  have c1 : Try.prog.cellsOf 3 = 1 := by kernel_rfl
  have c2 : Try.prog.cellsOf 33 = 1 := by kernel_rfl
  have c4 : Try.prog.cellsOf 54 = 1 := by kernel_rfl
  rw [hC] at hlen
  match cs, hlen, xs, hxl with
  | [v0, v1, v2, v3], _, [y0, y1, y2, y3], _ =>
    have h0 : DataW.trod enc Try.prog w base spare held m 3 (List.take (Try.prog.cellsOf 3) (List.drop 0 [v0, v1, v2, v3])) = some y0 := hf 0 _ rfl
    rw [c1] at h0
    have h1 : DataW.trod enc Try.prog w base spare held m 3 (List.take (Try.prog.cellsOf 3) (List.drop 1 [v0, v1, v2, v3])) = some y1 := hf 1 _ rfl
    rw [c1] at h1
    have h2 : DataW.trod enc Try.prog w base spare held m 33 (List.take (Try.prog.cellsOf 33) (List.drop 2 [v0, v1, v2, v3])) = some y2 := hf 2 _ rfl
    rw [c2] at h2
    have h4 : DataW.trod enc Try.prog w base spare held m 54 (List.take (Try.prog.cellsOf 54) (List.drop 3 [v0, v1, v2, v3])) = some y3 := hf 3 _ rfl
    rw [c4] at h4
    obtain ⟨k0, e0, _, _⟩ := DataW.trod_int Try.underlying3 h0
    obtain ⟨k1, e1, _, w1⟩ := DataW.trod_int Try.underlying3 h1
    obtain ⟨k2, e2, _, w2⟩ := DataW.trod_int Try.underlying33 h2
    obtain ⟨m2, rfl, hm2⟩ := wf_bounds_u32 w2
    obtain ⟨A4, n4, q4, us, e4, b1, b2, b3, b4, b5⟩ := rd_plain (cells := fun (k : Nat) => [Value.int .u32 (k : Int)]) (ok := fun k => k < 4294967296) (size := 1) Try.underlying54 (by kernel_rfl) (by decide)
      (fun n cs x h => by obtain ⟨k, rfl, _, hw⟩ := DataW.trod_int Try.underlying33 h; obtain ⟨s, rfl, hs⟩ := wf_bounds_u32 hw; exact ⟨s, rfl, hs⟩) h4
    obtain rfl : v0 = .int .i64 k0 := by simpa using e0
    obtain rfl : v1 = .int .i64 k1 := by simpa using e1
    obtain rfl : v2 = .int .u32 m2 := by simpa using e2
    obtain rfl : v3 = .slice A4 n4 q4 := by simpa using e4
    subst b3
    refine ⟨(⟨k0, k1, m2, us⟩, ⟨A4, q4⟩), rfl, ?_, b5, hm2, (bounds_i64 w1).2⟩
    have : wordsV us = us.flatMap (fun (k : Nat) => [Value.int .u32 (k : Int)]) := by
      unfold wordsV
      exact List.map_eq_flatMap
    rw [this]
    exact b4
theorem rd_bops {n : Nat} {cs : List Value} {x : DataW H × List MemPlace} (h : DataW.trod enc Try.prog w base spare held n 73 cs = some x) :
    ∃ (A : Option Addr) (c : Nat) (ms : List (BOp × BOpV)), cs = [.slice A ms.length c] ∧ BOpsAt w A ms := by
  obtain ⟨A, k, c, xs, rfl, h1, h2, h3, h4, h5⟩ := rd_plain (cells := bopCells) (ok := fun m => BOpAt w m) (size := 4) Try.underlying73 (by kernel_rfl) (by decide) (fun n cs x h => rd_bop h) h
  subst h3
  exact ⟨A, c, xs, rfl, h4, h5, Nat.le_trans h1 h2⟩
end
end Go.Proofs.Yteanpgkonhdbpaa

namespace Go.Proofs.Yteanpgkonhdbpaa
open Go.RowKit

section
variable {P : Program} {ops : Array Oper} {rest : List Oper} {o : Oper} {a : Act} {Q : Exit → Act → World → Prop} {w : World}
theorem wpList_runsB (hgd : o.guard = none) {v : Value} {w' : World} (he : (execOp a.eval o).run P w = .ok (.value v) w') (h : wpList P ops Q rest (a.put o.dst v) w') : wpList P ops Q (o :: rest) a w := by
  refine wpList_plain hgd fun K hK => ?_
  unfold Oper.wp
  rw [he]
  exact hK _ _ h
end
set_option maxRecDepth 100000 in
theorem run_build_bench (g gb : Nat) (d : Dev) (A1 A2 : Option Addr) (c1 c2 : Nat) (w : World) :
    (Instr.build 76 #[(0, .pointer (some ⟨g, 0, none⟩)), (1, .pointer (some ⟨gb, 0, none⟩)), (2, .agg (refV d A1 A2 c1 c2).toArray)]).run Try.prog w = .ok (.agg (benchV g gb ⟨d, false, []⟩ A1 A2 c1 c2 none 0).toArray) w := by
  kernel_rfl
def x0B (lim : Nat) : BenS := ⟨newD 4 13 lim, false, []⟩
def RetStart (w : World) (d0 : Dev) (e : Ending) (w' : World) : Prop :=
  ∃ g gb b1 b2 A1 A2 c1 c2, e = .returned (.tuple #[.agg (benchV g gb ⟨d0, false, []⟩ A1 A2 c1 c2 none 0).toArray, .bool true]) ∧ (w.heap.size ≤ g ∧ w.heap.size ≤ gb ∧ w.heap.size ≤ b1 ∧ w.heap.size ≤ b2) ∧ DevAt w' g b1 b2 d0 ∧ BankAt w' gb g (newB 0 4) ∧
    BenAt w.heap.size [gb, g, b1, b2] w' A1 A2 c1 c2 none ⟨d0, false, []⟩ ∧ Keep [] w w'
theorem same0 (lim : Nat) (hl : lim ≤ 1048576) : SameB (x0B lim) (newB 0 4) ∧ BigB (x0B lim).d :=
  ⟨⟨rfl, rfl, rfl, fun e => (by cases e), fun e => (by cases e), Nat.zero_le _, fun y hy => (by cases hy), Nat.zero_le _, by show 4294967295 < 4294967296; decide, fun e => (by cases e), Nat.zero_le _⟩,
    ⟨newD_ok 4 13 lim (by decide) (by decide) (by decide) (by decide) hl, by show 3 ≤ 4; decide, by show 13 ≤ 13; decide, by show (4 - 2) * 13 ≤ 4096; decide⟩⟩

set_option maxRecDepth 100000 in
set_option maxHeartbeats 4000000 in
theorem start_gen (lim : Nat) (d0 : Dev) (w : World)
    (hn : ∀ W, Calls Try.prog 12 #[.int .i64 4, .int .i64 13, .int .i64 (lim : Int)] W (RetNew W d0))
    (hr : ∀ W, Calls Try.prog 25 #[.int .i64 4, .int .i64 13, .int .i64 (lim : Int)] W (RetRNew W d0))
    (hb : ∀ W g b1 b2, DevAt W g b1 b2 d0 → Calls Try.prog 26 #[.pointer (some ⟨g, 0, none⟩), .int .i64 0, .int .i64 4] W fun e w' => ∃ gb, e = .returned (.tuple #[.pointer (some ⟨gb, 0, none⟩), .int .i64 0]) ∧ W.heap.size ≤ gb ∧ BankAt w' gb g (newB 0 4) ∧ Keep [] W w') :
    Calls Try.prog 35 #[.int .i64 (lim : Int)] w (RetStart w d0) := by
  have HN := Lib.hid hn
  have HR := Lib.hid hr
  have HB := Lib.hid hb
  clear hn hr hb
  have HAR : Hid (AggOf Try.prog 57 10) := agg_ref
  have HA : Hid (AggOf Try.prog 76 14) := agg_ben
  have b0 : Blk (w.alloc (.cells zeroBen 76)) w.heap.size 76 zeroBen := Blk.new _ _ _
  have k0 : Keep [] w (w.alloc (.cells zeroBen 76)) := (Keep.refl [] w).alloc _
  have HB0 := Lib.hid b0
  have HK0 := Lib.hid k0
  clear b0 k0
  go_enter Try.func35, Try.ntmps35
  go_upto_region 1 with fail
  generalize w.alloc (.cells zeroBen 76) = W at *
  have hz0 : w.heap.size < W.heap.size := HB0.out.lt
  go_wp2_with fail
  refine (HN.out W).mono ?_
  rintro e w1 ⟨g, b1, b2, rfl, l1, l2, l3, hd1, k1⟩
  have HD1 := Lib.hid hd1
  have HK1 := Lib.hid k1
  clear hd1 k1 HN
  go_wp2_with fail
  refine (HB.out w1 g b1 b2 HD1.out).mono ?_
  rintro e w2 ⟨gb, rfl, l4, hb2, k2⟩
  have hlg : g < w1.heap.size ∧ b1 < w1.heap.size ∧ b2 < w1.heap.size := ⟨HD1.out.dev.lt, HD1.out.bits.lt, HD1.out.worn.lt⟩
  obtain ⟨l5, l6, l7⟩ := hlg
  have hlb : gb < w2.heap.size := Blk.lt hb2
  have hz1 := HK1.out.size
  have hz2 := k2.size
  have HBK2 := Lib.hid hb2
  have HK2 := Lib.hid k2
  clear hb2 k2 HB
  go_wp2_with fail
  refine (HR.out w2).mono ?_
  rintro e w3 ⟨A1, A2, c1, c2, rfl, ho3, k3⟩
  have HO3 := Lib.hid ho3
  have HK3 := Lib.hid k3
  clear ho3 k3 HR
  go_wp2_with (refine stop_store 57 (.tmp 8) (.tmp 23) rfl ?_)
  constructor
  refine wpList_store_all rfl 57 (.tmp 8) (.tmp 23) rfl rfl rfl (t := 57) (cs := zeroD) (vs := refV d0 A1 A2 c1 c2) HAR.out.2 (Blk.new _ _ _) (refV_one _ _ _ _ _) rfl ?_
  intro w4 d4 k4
  have K34 : Keep [] w3 w4 := ((Keep.refl [] w3).alloc _).trans k4 (fun y hy hl => by simp only [List.mem_cons, List.not_mem_nil, or_false] at hy; omega)
  have HD4 := Lib.hid d4
  have HK4 := Lib.hid K34
  clear d4 k4 K34
  generalize w3.heap.size = R3 at *
  go_upto_region 4 with fail
  go_wp2_with (refine stop_load 57 (.tmp 8) rfl ?_)
  constructor
  refine wpList_load_agg rfl 57 (.tmp 8) rfl rfl (cs := refV d0 A1 A2 c1 c2) HAR.out HD4.out.cellsAt ?_
  go_wp2_with (refine stop_at 28 rfl ?_)
  constructor
  refine wpList_runsB rfl (v := .agg (benchV g gb ⟨d0, false, []⟩ A1 A2 c1 c2 none 0).toArray) (w' := w4) (by
    have hb := run_build_bench g gb d0 A1 A2 c1 c2 w4
    simp only [execOp, Sem.run_bind, List.map_toArray, List.map_cons, List.map_nil]
    change Result.andThen ((Instr.build 76 #[(0, .pointer (some ⟨g, 0, none⟩)), (1, .pointer (some ⟨gb, 0, none⟩)), (2, .agg (refV d0 A1 A2 c1 c2).toArray)]).run Try.prog w4) _ = _
    rw [hb]
    rfl) ?_
  go_wp2_with (refine wpList_store_all rfl 76 (.tmp 2) (.tmp 28) rfl rfl rfl (t := 76) (cs := zeroBen) (vs := benchV g gb ⟨d0, false, []⟩ A1 A2 c1 c2 none 0) HA.out.2 ?_ (benchV_one _ _ _ _ _ _ _ _ _) rfl ?_; exact (((HB0.out.keep0 HK1.out).keep0 HK2.out).keep0 HK3.out).keep0 HK4.out; intro w6 e6 k6)
  refine bodyPost_ret (results_blk_tmp rfl _ rfl rfl e6 HA.out) rfl ?_
  have K14 := (HK2.out.then HK3.out).then HK4.out
  have hni : ∀ y ∈ [gb, g, b1, b2], y ∉ [w.heap.size] := fun y hy => by simp only [List.mem_cons, List.not_mem_nil, or_false] at hy ⊢; omega
  have hlow : ∀ y ∈ [gb, g, b1, b2], y < w2.heap.size := fun y hy => by simp only [List.mem_cons, List.not_mem_nil, or_false] at hy; omega
  have hro : ROwn w.heap.size [gb, g, b1, b2] w3 A1 A2 c1 c2 d0 := ROwn.of_own HO3.out hlow (by omega)
  have hb04 := (((HB0.out.keep0 HK1.out).keep0 HK2.out).keep0 HK3.out).keep0 HK4.out
  refine ⟨g, gb, b1, b2, A1, A2, c1, c2, rfl, by omega, (HD1.out.keep0 K14).keep k6 (hni _ (by simp)) (hni _ (by simp)) (hni _ (by simp)), Blk.keep ((HBK2.out.keep0 HK3.out).keep0 HK4.out) k6 (hni _ (by simp)), ⟨(hro.keep0 HK4.out).keepBlk hb04 (by decide) (by decide) k6, Reads.none_, fun h => (by cases h)⟩, ((HK0.out.then HK1.out).then K14).trans k6 (fun y hy hl => by simp only [List.mem_cons, List.not_mem_nil, or_false] at hy; omega)⟩

theorem start_any08 (lim : Nat) (hl : lim ≤ 1048576) (w : World) : Calls Try.prog 35 #[.int .i64 (lim : Int)] w (RetStart w (newD 4 13 lim)) :=
  start_gen lim (newD 4 13 lim) w (fun W => fnew_yes 4 13 lim W (by decide) (by decide) (by decide) (by decide) hl) (fun W => rnew_yes 4 13 lim W (by decide) (by decide) (by decide) (by decide) hl)
    (fun W g b1 b2 h => bnew_yes g b1 b2 0 4 (newD 4 13 lim) W h (newD_ok 4 13 lim (by decide) (by decide) (by decide) (by decide) hl) (by decide) (by show 0 + 4 ≤ 4; decide) (by show 13 ≤ 13; decide))
end Go.Proofs.Yteanpgkonhdbpaa
