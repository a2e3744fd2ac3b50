/- A mode's words, handed on one by one; no condition. -/
import Derived.Test.YtfgjcjpemlgnmaaDoorCwTask
namespace Go.Proofs.YtfgjcjpemlgnmaaDoor
open Go.RowKit
attribute [local go_sem] Oper.semAt_some

theorem keep_of_below {w W : World} (h : Below w.heap.size w W) : Keep [] w W := ⟨h.os, h.tape, h.output, h.size, fun k hk _ => h.block k hk⟩
theorem flatQ_at (qs : List Que) : ∀ (k : Nat) (hk : k < qs.length), qs.flatMap queInts = (qs.take k).flatMap queInts ++ (qs[k].cap :: qs[k].pol :: (qs.drop (k + 1)).flatMap queInts) := by
  intro k hk
  conv => lhs; rw [← List.take_append_drop k qs, List.drop_eq_getElem_cons hk]
  rw [List.flatMap_append, List.flatMap_cons]
  simp [queInts]
theorem takeQ_succ (qs : List Que) (k : Nat) (hk : k < qs.length) : (qs.take (k + 1)).flatMap queInts = (qs.take k).flatMap queInts ++ [qs[k].cap, qs[k].pol] := by
  rw [List.take_succ_eq_append_getElem hk, List.flatMap_append]
  simp [queInts]

set_option maxRecDepth 100000 in
set_option maxHeartbeats 1000000 in
theorem mode_hands (m : Mdd) (A : Option Addr) (c : Nat) (w0 : World) (hRd : Reads w0 2 A m.qs.length (m.qs.flatMap queCells)) (hlm : m.qs.length ≤ maxLen) (hset : m.set < 4294967296) (l B2 : Nat) (J Jx : List Int → World → Prop) (W : World)
    (hw : Below w0.heap.size w0 W) (_hB2 : B2 ≤ W.heap.size) {lb : Nat} (_hlb : lb ≤ W.heap.size) (hJ : OwnT W.heap.size (LoW lb) J) (_hJx : OwnT W.heap.size (LoW lb) Jx) (hY : Rounds l (KpW w0.heap.size B2) (wordsM m) J Jx) (h0 : J [] W) :
    Calls Tryd.prog 38 #[.agg (mddCells (m, A, c)).toArray, .func (.yield l) #[] #[]] W (Handed (KpW w0.heap.size B2) (wordsM m) J Jx W) := by
  have hB0 := hw.size
  rw [← callsIn_wide (n := 9)]
  refine callsIn_of_wp Tryd.func38 rfl trivial ?_ rfl
  simp only [Tryd.ntmps38, List.size_toArray, List.length_cons, List.length_nil, Nat.reduceAdd, Nat.reduceSub, Array.replicate_succ, Array.replicate_zero, List.push_toArray, List.append_toArray, List.nil_append, List.cons_append]
  obtain ⟨W0, hW0⟩ : ∃ W0, W.alloc (.cells (mddCells (m, A, c)).toArray 47) = W0 := ⟨_, rfl⟩
  have hsz : W0.heap.size = W.heap.size + 1 := by rw [← hW0]; simp
  have c0 : Blk W0 W.heap.size 47 (mddCells (m, A, c)).toArray := by rw [← hW0]; exact Blk.new _ _ _
  have K0 : Keep [] W W0 := by rw [← hW0]; exact (Keep.refl _ W).alloc _
  have k0 : KpW w0.heap.size B2 W W0 := (KpW.refl W).step K0 (by simp) hB0
  have j0 := hJ.keep0 h0 K0
  have HSF : Hid (∀ w', Blk w' W.heap.size 47 (mddCells (m, A, c)).toArray → w'.cell? ⟨W.heap.size, 0, none⟩ = some (.int .u32 (m.set : Int)) ∧ w'.cell? ⟨W.heap.size, 1, none⟩ = some (.slice A m.qs.length c)) :=
    fun w' h => ⟨by rw [h.cell]; rfl, by rw [h.cell]; rfl⟩
  have HWS : Hid (IntKind.i64.wrap (m.set : Int) = (m.set : Int)) := IntWalk.i64_in _ (by omega)
  obtain ⟨f0, f1⟩ := HSF.out _ c0
  have HW := Lib.hid hW0
  generalize hcs : (mddCells (m, A, c)).toArray = cs at *
  clear hW0
  obtain ⟨fn, tmps, assign, body, hy, hR⟩ := hY.next 8 [] ((m.qs.length : Int) :: m.qs.flatMap queInts) (m.set : Int) rfl j0
  gi_wp2_with (first | rw [HW.out] | rw [HWS.out])
  refine hR.mono ?_
  rintro e w1 (⟨rfl, j1, kr⟩ | ⟨rfl, jx, kr⟩)
  rotate_left
  · gi_wp2
    refine ⟨fun _ h => (by cases h), ?_⟩
    gi_wp2
    refine bodyPost_ret (results_tmp rfl _ _ _) rfl ?_
    exact .inr ⟨rfl, _, ⟨(m.qs.length : Int) :: m.qs.flatMap queInts, rfl⟩, jx⟩
  have c1 := kr.blk c0 (by decide)
  have k1 := k0.trans kr
  obtain ⟨f2, f3⟩ := HSF.out _ c1
  clear hy hR f0 f1 kr
  obtain ⟨fn, tmps, assign, body, hy, hR⟩ := hY.next 8 [(m.set : Int)] (m.qs.flatMap queInts) (m.qs.length : Int) rfl j1
  gi_wp2
  refine hR.mono ?_
  rintro e w2 (⟨rfl, j2, kr⟩ | ⟨rfl, jx, kr⟩)
  rotate_left
  · gi_wp2
    refine bodyPost_ret (results_tmp rfl _ _ _) rfl ?_
    exact .inr ⟨rfl, _, ⟨m.qs.flatMap queInts, rfl⟩, jx⟩
  have c2 := kr.blk c1 (by decide)
  have k2 := k1.trans kr
  obtain ⟨f4, f5⟩ := HSF.out _ c2
  clear hy hR f2 f3 kr
  gi_wp2
  have hsz2 : W.heap.size + 1 ≤ w2.heap.size := c2.lt
  have HWM : Hid (wordsM m = [(m.set : Int), (m.qs.length : Int)] ++ m.qs.flatMap queInts) := show _ = _ from rfl
  have HLM := Lib.hid hlm
  clear hlm f4 f5 c0 c1 c2 j0 j1 k0 k1 K0 h0
  gi_loopw [24] (fun vi wr => ∃ k : Nat, k ≤ m.qs.length ∧ vi = .int .i64 (k : Int) ∧ J ([(m.set : Int), (m.qs.length : Int)] ++ (m.qs.take k).flatMap queInts) wr ∧ KpW w0.heap.size B2 W wr) (fun i _ => m.qs.length - (intOf i).toNat)
  case atStart => exact ⟨0, Nat.zero_le _, rfl, by simpa using j2, k2⟩
  case round =>
    obtain ⟨k, hk, rfl, hj, hkr⟩ := hrel
    have hlm := HLM.out
    unfold maxLen at hlm
    by_cases hlt : k < m.qs.length
    · have kw := keep_of_below (hw.trans hkr.below)
      obtain ⟨b, o, hA, hbw, hcs2⟩ := (hRd.keep0 kw).elems rfl (fun _ _ => rfl) (by omega)
      have hq := Lib.hid (hcs2 k hlt)
      have hpre := Lib.hid (flatQ_at m.qs k hlt)
      have hsuc := Lib.hid (takeQ_succ m.qs k hlt)
      clear hcs2
      rw [hA] at *
      have hq : Hid (CellsAt wr b (o + k * 2) [.int .i64 m.qs[k].cap, .int .i64 m.qs[k].pol]) := hq
      generalize m.qs[k].cap = qc at *
      generalize m.qs[k].pol = qp at *
      obtain ⟨V, hV⟩ : ∃ V, wr.alloc (.cells #[.int .i64 qc, .int .i64 qp] 65) = V := ⟨_, rfl⟩
      have KV : Keep [] wr V := by rw [← hV]; exact (Keep.refl _ wr).alloc _
      have dV : Blk V wr.heap.size 65 #[.int .i64 qc, .int .i64 qp] := by rw [← hV]; exact Blk.new _ _ _
      have jV := hJ.keep0 hj KV
      have kV := hkr.step KV (by simp) hB0
      have HV := Lib.hid hV
      clear hV
      have hx1 : wordsM m = ([(m.set : Int), (m.qs.length : Int)] ++ (m.qs.take k).flatMap queInts) ++ qc :: (qp :: (m.qs.drop (k + 1)).flatMap queInts) := by rw [HWM.out, hpre.out, List.append_assoc]
      have hx2 : wordsM m = (([(m.set : Int), (m.qs.length : Int)] ++ (m.qs.take k).flatMap queInts) ++ [qc]) ++ qp :: (m.qs.drop (k + 1)).flatMap queInts := by rw [hx1]; simp
      have HX1 := Lib.hid hx1
      have HX2 := Lib.hid hx2
      obtain ⟨fn, tmps, assign, body, hy, hR⟩ := hY.next 8 _ _ qc hx1 jV
      have q0 := dV.cell 0
      have q1 := dV.cell 1
      simp at q0 q1
      clear hx1 hx2 hpre
      gi_wp2_with (first | rw [HV.out] | (refine wpListIn_agg rfl 65 (.tmp 26) rfl rfl (cs := [.int .i64 qc, .int .i64 qp]) agg_queue hq.out ?_))
      refine hR.mono ?_
      rintro e w3 (⟨rfl, j3, kr⟩ | ⟨rfl, jx, kr⟩)
      rotate_left
      · gi_wp2
        refine ⟨fun _ h => (by cases h), ?_⟩
        gi_wp2
        refine bodyPost_ret (results_tmp rfl _ _ _) rfl ?_
        exact .inr ⟨rfl, _, ⟨_, by rw [HX2.out]⟩, jx⟩
      have d3 := kr.blk dV (by decide)
      have k3 := kV.trans kr
      have q3 := d3.cell 1
      simp at q3
      clear hy hR kr q0 q1
      obtain ⟨fn, tmps, assign, body, hy, hR⟩ := hY.next 8 _ _ qp HX2.out j3
      gi_wp2
      refine hR.mono ?_
      rintro e w4 (⟨rfl, j4, kr⟩ | ⟨rfl, jx, kr⟩)
      rotate_left
      · gi_wp2
        refine bodyPost_ret (results_tmp rfl _ _ _) rfl ?_
        exact .inr ⟨rfl, _, ⟨(m.qs.drop (k + 1)).flatMap queInts, by rw [HX2.out]; simp⟩, jx⟩
      have k4 := k3.trans kr
      gi_wp2
      go_roundw
      case rel => exact ⟨k + 1, by omega, by go_num, by rw [hsuc.out]; simpa using j4, k4⟩
      case measure => simp [intOf] <;> omega
    · obtain rfl : k = m.qs.length := by omega
      gi_wp2
      refine bodyPost_ret (results_tmp rfl _ _ _) rfl ?_
      exact .inl ⟨rfl, by rw [HWM.out]; simpa using hj, hkr⟩
end Go.Proofs.YtfgjcjpemlgnmaaDoor
