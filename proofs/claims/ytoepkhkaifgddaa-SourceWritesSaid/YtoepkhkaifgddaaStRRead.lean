/- The step of a line: the document's Read; walked. Condition: the line is no longer than a million bytes. -/
import Derived.Test.YtoepkhkaifgddaaStReadEq
import Derived.Test.YtoepkhkaifgddaaStRSect
import Derived.Test.YtoepkhkaifgddaaStFormK
import Derived.Test.YtoepkhkaifgddaaDigRef
namespace Go.Proofs.Ytoepkhkaifgddaa
open Go.RowKit

theorem rreadWord_fix (s : ByteArray) (w : World) (hs : s.size ≤ 1000000) : Calls Try.prog 53 #[.string s] w fun e w' => e = .returned (.tuple #[.int .u32 ((readWP (bytesOf s)).1 : Int), .int .i64 (readWP (bytesOf s)).2]) ∧ Keep [] w w' := by
  rw [← readW_same]
  exact rreadWord_any s w (by unfold maxLen; omega)
theorem readWP_err (l : List UInt8) : (readWP l).2 = 0 ∨ (readWP l).2 = 11 := by
  unfold readWP
  split
  · exact .inl rfl
  · exact .inr rfl
/-- The words of the kinds are all different. -/
theorem shp_words : ∀ i, i < 15 → ∀ j, j < 15 → (shp ((i : Nat) + 1 : Int)).1 = (shp ((j : Nat) + 1 : Int)).1 → i = j := by decide +kernel
theorem kindW_at {s : ByteArray} {k : Nat} (hk : k < 15) (h : (shp ((k : Int) + 1)).1 = s) : kindW s = (k : Int) + 1 :=
  kindW_hit hk h (fun j hj e => by
    have := shp_words j (by omega) k hk (e.trans h.symm)
    omega)
abbrev UsR : List Nat := [45, 85, 77]
/-- The step that is being read, in the block g, and what has been kept since the world W2. -/
structure RdD (W2 W : World) (g : Nat) (st : Stp) (i : Nat) : Prop where
  own : OwnSt W g g st
  kp : KpU UsR g g W2 W
  ls : st.secs.length ≤ i
  lw : st.words.length ≤ i
theorem RdD.keep0 {W2 W W' : World} {g i : Nat} {st : Stp} (h : RdD W2 W g st i) (hg : g ≤ W2.heap.size) (k : Keep [] W W') : RdD W2 W' g st i := by
  obtain ⟨vs, vw, hO⟩ := h.own
  exact ⟨⟨vs, vw, hO.keep0 k⟩, h.kp.trans (kpu_keep0 k (by have := h.kp.size; omega)), h.ls, h.lw⟩
theorem RdD.num {W2 W : World} {g i : Nat} {st st' : Stp} (h : RdD W2 W g st i) (hg : g ≤ W2.heap.size) (j : Nat) (u : Value) (e : ∀ vs vw, (ownCells st vs vw).toArray.setIfInBounds j u = (ownCells st' vs vw).toArray) (e1 : st'.secs = st.secs) (e2 : st'.words = st.words) : RdD W2 (W.setCell ⟨g, j, none⟩ u) g st' i := by
  obtain ⟨vs, vw, hO⟩ := h.own
  exact ⟨⟨vs, vw, hO.num j u st' (e vs vw) e1 e2⟩, h.kp.trans (hO.kpu (Nat.le_refl _) ((Keep.refl _ W).setCell (by simp) u)), by rw [e1]; exact h.ls, by rw [e2]; exact h.lw⟩
theorem RdD.sec {W2 W w5 : World} {g i : Nat} {st : Stp} {vs vw v' : Value} (h : RdD W2 W g st i) (hO : OwnStp W g g st vs vw) (x : Sct) (h1 : w5.ownsRow g 85 3 v' (st.secs.length + 1) (st.secs.flatMap sctCells ++ sctCells x)) (k : Keep vs.ownBlock.toList W w5) : RdD W2 (w5.setCell ⟨g, 3, none⟩ v') g { st with secs := st.secs ++ [x] } (i + 1) :=
  ⟨⟨v', vw, hO.sec x h1 k⟩, h.kp.trans (hO.kpu (Nat.le_refl _) ((k.mono (fun y hy _ => by simp only [List.mem_cons, List.mem_append]; exact .inr (.inl hy))).setCell (by simp) _)), by have := h.ls; simp; omega, by have := h.lw; show st.words.length ≤ i + 1; omega⟩
theorem RdD.word {W2 W w5 : World} {g i : Nat} {st : Stp} {vs vw v' : Value} (h : RdD W2 W g st i) (hO : OwnStp W g g st vs vw) (x : Nat) (h1 : w5.ownsRow g 77 1 v' (st.words.length + 1) (u32s st.words ++ [.int .u32 (x : Int)])) (k : Keep vw.ownBlock.toList W w5) : RdD W2 (w5.setCell ⟨g, 4, none⟩ v') g { st with words := st.words ++ [x] } (i + 1) :=
  ⟨⟨vs, v', hO.word x h1 k⟩, h.kp.trans (hO.kpu (Nat.le_refl _) ((k.mono (fun y hy _ => by simp only [List.mem_cons, List.mem_append]; exact .inr (.inr hy))).setCell (by simp) _)), by have := h.ls; show st.secs.length ≤ i + 1; omega, by have := h.lw; simp; omega⟩
theorem RdD.cell {W2 W : World} {g i : Nat} {st : Stp} (h : RdD W2 W g st i) {b o : Nat} (hb : b < g) {u : Value} (hc : W2.cell? ⟨b, o, none⟩ = some u) : W.cell? ⟨b, o, none⟩ = some u :=
  (World.cell?_of_block (h.kp.below.block b hb)).trans hc
theorem RdD.cell0 {W2 W : World} {g i : Nat} {st : Stp} (h : RdD W2 W g st i) : W.cell? ⟨g, 0, none⟩ = some (.int .i64 st.kind) ∧ W.cell? ⟨g, 1, none⟩ = some (.int .i64 st.a) ∧ W.cell? ⟨g, 2, none⟩ = some (.int .i64 st.n) ∧ W.frozen? ⟨g, 0, none⟩ = false ∧ W.frozen? ⟨g, 1, none⟩ = false ∧ W.frozen? ⟨g, 2, none⟩ = false := by
  obtain ⟨vs, vw, hO⟩ := h.own
  exact ⟨hO.blk.cell 0, hO.blk.cell 1, hO.blk.cell 2, hO.blk.frozen 0, hO.blk.frozen 1, hO.blk.frozen 2⟩
/-- A kind that has been looked for among the first ones. -/
def KindAt (p0 : ByteArray) (k : Nat) (kd : Int) (pa : ByteArray) : Prop :=
  (∃ j : Nat, j + 1 < k ∧ (shp ((j : Int) + 1)).1 = p0 ∧ kd = (j : Int) + 1 ∧ pa = (shp ((j : Int) + 1)).2) ∨ ((∀ j : Nat, j + 1 < k → (shp ((j : Int) + 1)).1 ≠ p0) ∧ kd = 0 ∧ pa = { data := #[] })
theorem kindAt_hit {p0 pa : ByteArray} {kd : Int} {j : Nat} (h : KindAt p0 (j + 1) kd pa) (hw : (shp ((j : Int) + 1)).1 = p0) : KindAt p0 (j + 1 + 1) ((j : Int) + 1) (shp ((j : Int) + 1)).2 := .inl ⟨j, by omega, hw, rfl, rfl⟩
theorem kindAt_miss {p0 pa : ByteArray} {kd : Int} {j : Nat} (h : KindAt p0 (j + 1) kd pa) (hw : (shp ((j : Int) + 1)).1 ≠ p0) : KindAt p0 (j + 1 + 1) kd pa := by
  rcases h with ⟨i, hi, h1, h2, h3⟩ | ⟨hn, h2, h3⟩
  · exact .inl ⟨i, by omega, h1, h2, h3⟩
  · refine .inr ⟨fun i hi => ?_, h2, h3⟩
    rcases Nat.lt_or_ge i j with hij | hij
    · exact hn i (by omega)
    · obtain rfl : i = j := by omega
      exact hw
def RReadPost (w : World) (r : Stp × Bool) (e : Ending) (w' : World) : Prop :=
  ∃ st vs vw, e = .returned (.tuple #[.agg (ownCells st vs vw).toArray, .bool r.2]) ∧ (r.2 = true → st = r.1) ∧ w'.ownsRow w.heap.size 85 3 vs st.secs.length (st.secs.flatMap sctCells) ∧ w'.ownsRow w.heap.size 77 1 vw st.words.length (u32s st.words) ∧ Keep [] w w'
theorem ownCells_one {W : World} {b0 B : Nat} {st : Stp} {vs vw : Value} (h : OwnStp W b0 B st vs vw) : ∀ v, v ∈ ownCells st vs vw → v.oneCell' = true := by
  obtain ⟨A1, c1, e1⟩ := own_shape h.secs
  obtain ⟨A2, c2, e2⟩ := own_shape h.words
  intro y hy
  simp [ownCells, e1, e2] at hy
  rcases hy with rfl | rfl | rfl | rfl | rfl <;> rfl
theorem RdD.res {w W2 W : World} {g i : Nat} {st : Stp} (h : RdD W2 W g st i) (hb : Blk W2 w.heap.size 45 zStep.toArray) (hg : w.heap.size < g) : Blk W w.heap.size 45 zStep.toArray := (h.kp.below.block _ hg).trans hb
theorem RdD.keepw {w W2 W : World} {g i : Nat} {st : Stp} (h : RdD W2 W g st i) (hk : Keep [] w W2) (hg : w.heap.size < g) : Keep [] w W :=
  ⟨h.kp.below.os.trans hk.os, h.kp.below.tape.trans hk.tape, h.kp.below.output.trans hk.output, Nat.le_trans hk.size h.kp.size, fun x hx _ => (h.kp.below.block x (by omega)).trans (hk.block x hx (by simp))⟩
theorem RdD.post {w W w9 : World} {g : Nat} {st : Stp} {vs vw : Value} {r : Stp × Bool} {b : Bool} (hO : OwnStp W g g st vs vw) (hg : w.heap.size < g) (hk : Keep [] w W) (k9 : Keep [w.heap.size] W w9) (hb : b = r.2) (hst : b = true → st = r.1) :
    RReadPost w r (.returned (.tuple #[.agg (ownCells st vs vw).toArray, .bool b])) w9 := by
  subst hb
  refine ⟨st, vs, vw, rfl, hst, own_base (own_keep hO.secs k9 (fun y hy hm => ?_)) (by omega), own_base (own_keep hO.words k9 (fun y hy hm => ?_)) (by omega), hk.trans k9 (fun y hy hlt => by simp at hy; omega)⟩
  · have := row_base hO.secs y (by simp [hy])
    simp at hm
    omega
  · have := row_base hO.words y (by simp [hy])
    simp at hm
    omega
theorem kindAt_end {p0 pa : ByteArray} {kd : Int} (h : KindAt p0 16 kd pa) : kd = kindW p0 ∧ (kd ≠ 0 → pa = (shp kd).2) := by
  rcases h with ⟨j, hj, hw, rfl, rfl⟩ | ⟨hn, rfl, rfl⟩
  · exact ⟨(kindW_at (by omega) hw).symm, fun _ => rfl⟩
  · exact ⟨(kindW_none (fun j hj => hn j (by omega))).symm, fun h => absurd rfl h⟩

set_option maxRecDepth 100000 in
set_option maxHeartbeats 16000000 in
theorem rrd_any (s : ByteArray) (w : World) (hs : s.size ≤ 1000000) :
    Calls Try.prog 23 #[.string s] w (RReadPost w (readD s)) := by
  have HP := fun W => Lib.hid (rpieces_any s W hs)
  have hlen : (piecesOf s).length ≤ s.size + 1 := (scan_le s (s.size + 1)).1
  have hpz : ∀ p ∈ piecesOf s, p.size ≤ s.size := fun p hp => scan_size s (s.size + 1) p hp
  have hRD : Hid (readD s = match piecesOf s with | [] => (noStp, false) | p0 :: rest => if kindW p0 = 0 then (noStp, false) else doneR (partsR { noStp with kind := kindW p0 } (partsL (shp (kindW p0)).2) rest)) := rfl
  generalize piecesOf s = P at *
  go_enter Try.func23, Try.ntmps23
  have hb2 := Blk.new w 45 zStep.toArray
  go_wp2_with fail
  refine (HP _).out.mono ?_
  rintro e w1 ⟨A, c, rfl, hrow, k1⟩
  have hb2' := hb2.keep0 k1
  have hk1 := ((Keep.refl [] w).alloc _).then k1
  go_upto_region 3 with fail
  obtain ⟨W2, hW2⟩ : ∃ W2, w1.alloc (.cells #[.int .i64 0, .int .i64 0, .int .i64 0, .slice none 0 0, .slice none 0 0] 45) = W2 := ⟨_, rfl⟩
  have hgw : w.heap.size < w1.heap.size := hb2'.lt
  have HB2 : Hid (Blk W2 w.heap.size 45 zStep.toArray) := by rw [← hW2]; exact hb2'.alloc _
  have HK2 : Hid (Keep [] w W2) := by rw [← hW2]; exact hk1.alloc _
  have hg5 : Blk W2 w1.heap.size 45 zStep.toArray := by rw [← hW2]; exact Blk.new _ _ _
  have hrow2 : 0 < P.length → ∃ b o, A = some ⟨b, o, none⟩ ∧ b < w1.heap.size ∧ ∀ j, (h : j < P.length) → W2.cell? ⟨b, o + j, none⟩ = some (.string P[j]) := fun h0 => by
    obtain ⟨b, o, e, hb, hc⟩ := (Reads.of_own hrow).addr h0
    refine ⟨b, o, e, hb, fun j h => ?_⟩
    rw [← hW2]
    exact (((Keep.refl [] w1).alloc _).cell (p := ⟨b, o + j, none⟩) hb (by simp)).trans (hc j _ (by simp [strs, h]))
  have HD0 : Hid (RdD W2 W2 w1.heap.size noStp 0) := ⟨⟨_, _, hg5, World.ownsRow_nil _ _ _ _, World.ownsRow_nil _ _ _ _⟩, KpU.refl _, Nat.le_refl _, Nat.le_refl _⟩
  have hgs : w1.heap.size < W2.heap.size := hg5.lt
  have HRW := Lib.hid hrow2
  simp only [hW2]
  clear hb2 hb2' hk1 k1 hrow hg5 hrow2 HP hW2
  generalize w1.heap.size = g at *
  cases P with
  | nil =>
    have HD := HD0
    clear HD0
    obtain ⟨vs, vw, hO⟩ := HD.out.own
    have hone := ownCells_one hO
    have hcl : CellsAt _ g 0 (ownCells _ vs vw) := hO.blk.cellsAt
    have hres := RdD.res HD.out HB2.out hgw
    have hkw := RdD.keepw HD.out HK2.out hgw
    have HO := Lib.hid hO
    clear hO
    go_wp2_with (first
      | (refine wpList_load_agg rfl 45 (.tmp 5) rfl rfl (cs := ownCells _ vs vw) agg_step hcl ?_)
      | (refine stop_store 45 (.tmp 2) (.tmp 26) rfl ?_))
    constructor
    refine wpList_store_all rfl 45 (.tmp 2) (.tmp 26) rfl rfl rfl (vs := ownCells _ vs vw) agg_step.2 hres hone rfl ?_
    intro w9 d9 k9
    have HK9 := Lib.hid k9
    clear k9 hres hone hcl
    go_wp2
    refine bodyPost_ret (st_results rfl _ rfl rfl d9 agg_step) rfl ?_
    exact RdD.post HO.out hgw hkw HK9.out (show false = (readD s).2 by rw [hRD.out]) (fun h => by cases h)
  | cons p0 rest =>
    obtain ⟨pb, po, rfl, hpb, hpc⟩ := HRW.out (by simp)
    have hp00 : W2.cell? ⟨pb, po, none⟩ = some (.string p0) := by have := hpc 0 (by simp); simpa using this
    have hrl : rest.length ≤ 1000000 := by simp at hlen; omega
    clear HRW
    have HPC := Lib.hid hpc
    clear hpc
    rw [List.length_cons]
    have hn0 : ((rest.length : Int) + 1 == 0) = false := by rw [beq_eq_false_iff_ne]; omega
    go_wp2_with fail
    go_loopw [7, 6] (fun v7 v6 wr => ∃ (j : Nat) (kd : Int) (pa : ByteArray), j ≤ 15 ∧ v7 = .int .i64 ((j : Int) + 1) ∧ v6 = .string pa ∧ KindAt p0 (j + 1) kd pa ∧ RdD W2 wr g { noStp with kind := kd } 0) (fun v7 _ _ => 16 - (intOf v7).toNat)
    case atStart => exact ⟨0, 0, _, by omega, rfl, rfl, .inr ⟨fun i h => absurd h (by omega), rfl, rfl⟩, HD0.out⟩
    case round =>
      obtain ⟨j, kd, pa, hj, rfl, rfl, hka, hD⟩ := hrel
      by_cases hlt : j < 15
      · have q0 : decide ((j : Int) + 1 ≤ 15) = true := decide_eq_true (by omega)
        have HF := fun W => Lib.hid (rform_any ((j : Int) + 1) W)
        have hD2 := Lib.hid hD
        have hKA := Lib.hid hka
        clear hD hka
        go_wp2_with fail
        refine (HF _).out.mono ?_
        rintro e w3 ⟨rfl, k3⟩
        have hD3 := hD2.out.keep0 (Nat.le_of_lt hgs) k3
        have c1 := hD3.cell hpb hp00
        obtain ⟨e0, e1, e2, f0, f1, f2⟩ := hD3.cell0
        have HD3 := Lib.hid hD3
        clear hD3 k3 HF
        by_cases hw : (shp ((j : Int) + 1)).1 = p0
        · have hq : ((shp ((j : Int) + 1)).1.toList == p0.toList) = true := by rw [hw]; simp
          have hnx := Lib.hid (kindAt_hit hKA.out hw)
          have hDn := Lib.hid (HD3.out.num (Nat.le_of_lt hgs) 0 (.int .i64 ((j : Int) + 1)) (st' := { noStp with kind := (j : Int) + 1 }) (fun vs vw => rfl) rfl rfl)
          clear hw
          go_wp2
          go_roundw
          case rel => exact ⟨j + 1, _, _, by omega, by go_num, rfl, hnx.out, hDn.out⟩
          case measure => simp [intOf]; omega
        · have hq : ((shp ((j : Int) + 1)).1.toList == p0.toList) = false := by rw [beq_eq_false_iff_ne]; intro e; exact hw (toList_eq e)
          have hnx := Lib.hid (kindAt_miss hKA.out hw)
          clear hw
          go_wp2
          go_roundw
          case rel => exact ⟨j + 1, _, _, by omega, by go_num, rfl, hnx.out, HD3.out⟩
          case measure => simp [intOf]; omega
      · obtain rfl : j = 15 := by omega
        obtain ⟨hkd, hpa⟩ := kindAt_end hka
        have HD := Lib.hid hD
        obtain ⟨e0, e1, e2, f0, f1, f2⟩ := hD.cell0
        clear hD hka hlt hj
        by_cases hk0 : kd = 0
        · have hq : (kd == 0) = true := by simp [hk0]
          have hr2 : Hid ((readD s).2 = false) := by show _ = _; rw [hRD.out, ← hkd, if_pos hk0]
          clear hk0 hkd hpa
          obtain ⟨vs, vw, hO⟩ := HD.out.own
          have hone := ownCells_one hO
          have hcl : CellsAt _ g 0 (ownCells _ vs vw) := hO.blk.cellsAt
          have hres := RdD.res HD.out HB2.out hgw
          have hkw := RdD.keepw HD.out HK2.out hgw
          have HO := Lib.hid hO
          clear hO
          go_wp2_with (first
            | (refine wpList_load_agg rfl 45 (.tmp 5) rfl rfl (cs := ownCells _ vs vw) agg_step hcl ?_)
            | (refine stop_store 45 (.tmp 2) (.tmp 47) rfl ?_))
          constructor
          refine wpList_store_all rfl 45 (.tmp 2) (.tmp 47) rfl rfl rfl (vs := ownCells _ vs vw) agg_step.2 hres hone rfl ?_
          intro w9 d9 k9
          have HK9 := Lib.hid k9
          clear k9 hres hone hcl
          go_wp2
          refine bodyPost_ret (st_results rfl _ rfl rfl d9 agg_step) rfl ?_
          exact RdD.post HO.out hgw hkw HK9.out hr2.out.symm (fun h => by cases h)
        · have hq : (kd == 0) = false := by simp [hk0]
          have hR2 : Hid (readD s = doneR (partsR { noStp with kind := kd } (partsL pa) rest)) := by show _ = _; rw [hRD.out, ← hkd, if_neg hk0, hpa hk0]
          clear hRD
          have hsz3 : pa.size ≤ 3 := by rw [hpa hk0]; exact shp_size kd
          have hpc5 : ∀ k, k < pa.size → partC (byteAt pa k) := by rw [hpa hk0]; exact shp_parts kd
          have hgle := Nat.le_of_lt hgs
          clear hk0 hkd hpa hp00 HD0
          go_wp2
          go_loopw [11, 10] (fun v11 v10 wr => ∃ (k i : Nat) (st : Stp), k ≤ pa.size ∧ v11 = .int .i64 (k : Int) ∧ v10 = .int .i64 (i : Int) ∧ 1 ≤ i ∧ i ≤ rest.length + 1 ∧ partsR { noStp with kind := kd } (partsL pa) rest = partsR st ((partsL pa).drop k) (rest.drop (i - 1)) ∧ RdD W2 wr g st i) (fun v11 _ _ => pa.size - (intOf v11).toNat)
          case atStart => exact ⟨0, 1, _, Nat.zero_le _, rfl, rfl, Nat.le_refl _, by omega, rfl, ⟨HD.out.own, HD.out.kp, Nat.le_succ_of_le HD.out.ls, Nat.le_succ_of_le HD.out.lw⟩⟩
          case round =>
            clear HD e0 e1 e2 f0 f1 f2 hq
            obtain ⟨k, i, st, hk, rfl, rfl, hi1, hi2, heq, hD⟩ := hrel
            have HD := Lib.hid hD
            have HEQ := Lib.hid heq
            clear hD heq
            by_cases hlt : k < pa.size
            · have hc5 := hpc5 k hlt
              have hby : byteAt pa k = ((pa[k]'hlt).toNat : Int) := dif_pos hlt
              have HDR := Lib.hid (partsL_get pa k hlt)
              rw [HDR.out, hby] at HEQ
              rw [hby] at hc5
              have hk0 : (0 : Int) ≤ (k : Int) := by omega
              have hk1 : (k : Int) < (pa.size : Int) := by omega
              have hpq : i ≤ rest.length → ∃ q, rest.drop (i - 1) = q :: rest.drop i ∧ q.size ≤ 1000000 ∧ W2.cell? ⟨pb, po + i, none⟩ = some (.string q) := fun h => by
                have h1 : i - 1 < rest.length := by omega
                refine ⟨rest[i - 1], ?_, ?_, ?_⟩
                · rw [List.drop_eq_getElem_cons h1, show i - 1 + 1 = i by omega]
                · have := hpz rest[i - 1] (List.mem_cons_of_mem _ (List.getElem_mem h1)); omega
                · have := HPC.out i (by simp; omega)
                  rw [this]
                  congr 2
                  obtain ⟨i0, rfl⟩ : ∃ i0, i = i0 + 1 := ⟨i - 1, by omega⟩
                  rfl
              clear HDR hby hpc5
              generalize hcc : ((pa[k]'hlt).toNat : Int) = cc at *
              have hnil : i = rest.length + 1 → rest.drop (i - 1) = [] := fun h => by rw [List.drop_eq_nil_iff]; omega
              obtain ⟨cs1, HCS⟩ : ∃ cs1, Hid ((partsL pa).drop (k + 1) = cs1) := ⟨_, rfl⟩
              rw [HCS.out] at HEQ
              rcases hc5 with rfl | rfl | rfl | rfl | rfl
              · skip
                go_wp2
                generalize wr = wo at *
                go_loopw [10] (fun v10 wr => v10 = .int .i64 (i : Int) ∧ wo = wr) (fun _ _ => 0)
                case atStart => exact ⟨rfl, rfl⟩
                case round =>
                  obtain ⟨rfl, rfl⟩ := hrel
                  by_cases hil : i = rest.length + 1
                  · have hge : decide ((rest.length : Int) + 1 ≤ (i : Int)) = true := decide_eq_true (by omega)
                    have hr2 : Hid ((readD s).2 = false) := by show _ = _; rw [hR2.out, HEQ.out, hnil hil, partsR_cons]; rfl
                    clear hil hpq hnil
                    obtain ⟨vs, vw, hO⟩ := HD.out.own
                    have hone := ownCells_one hO
                    have hcl : CellsAt _ g 0 (ownCells _ vs vw) := hO.blk.cellsAt
                    have hres := RdD.res HD.out HB2.out hgw
                    have hkw := RdD.keepw HD.out HK2.out hgw
                    have HO := Lib.hid hO
                    clear hO
                    go_wp2_with (first
                      | (refine wpList_load_agg rfl 45 (.tmp 5) rfl rfl (cs := ownCells _ vs vw) agg_step hcl ?_)
                      | (refine stop_store 45 (.tmp 2) (.tmp 126) rfl ?_))
                    constructor
                    refine wpList_store_all rfl 45 (.tmp 2) (.tmp 126) rfl rfl rfl (vs := ownCells _ vs vw) agg_step.2 hres hone rfl ?_
                    intro w9 d9 k9
                    have HK9 := Lib.hid k9
                    clear k9 hres hone hcl
                    go_wp2
                    refine bodyPost_ret (st_results rfl _ rfl rfl d9 agg_step) rfl ?_
                    exact RdD.post HO.out hgw hkw HK9.out hr2.out.symm (fun h => by cases h)
                  · have hge : decide ((rest.length : Int) + 1 ≤ (i : Int)) = false := decide_eq_false (by omega)
                    obtain ⟨q, hq1, hq2, hq3⟩ := hpq (by omega)
                    have hcq := HD.out.cell hpb hq3
                    have hi0 : (0 : Int) ≤ (i : Int) := by omega
                    have hi3 : (i : Int) < (rest.length : Int) + 1 := by omega
                    have HRq := fun W => Lib.hid (rread_fix q W hq2)
                    have herr := readP_err (bytesOf q)
                    have hpp : Hid (partsR st (97 :: cs1) (q :: rest.drop i) = if ((readP (bytesOf q)).2 == 0) = true then partsR { st with a := (readP (bytesOf q)).1 } cs1 (rest.drop i) else none) := rfl
                    generalize readP (bytesOf q) = r at *
                    obtain ⟨r1, r2⟩ := r
                    dsimp only at *
                    rw [hq1] at HEQ
                    clear hq1 hq3 hpq hnil hil
                    go_wp2_with fail
                    refine (HRq _).out.mono ?_
                    rintro e w3 ⟨rfl, k3⟩
                    have hD3 := HD.out.keep0 hgle k3
                    obtain ⟨e0, e1, e2, f0, f1, f2⟩ := hD3.cell0
                    replace HD := Lib.hid hD3
                    clear hD3 k3
                    rcases herr with rfl | rfl
                    · have HDn := Lib.hid (HD.out.num hgle 1 (.int .i64 r1) (st' := { st with a := r1 }) (fun vs vw => rfl) rfl rfl)
                      have HE2 : Hid (partsR { noStp with kind := kd } (partsL pa) rest = partsR { st with a := r1 } cs1 (rest.drop i)) := HEQ.out.trans hpp.out
                      clear hpp HEQ
                      go_wp2
                      go_roundw
                      case rel => exact ⟨k + 1, i + 1, _, by omega, by go_num, by go_num, by omega, by omega, by rw [HE2.out, HCS.out, Nat.add_sub_cancel], ⟨HDn.out.own, HDn.out.kp, Nat.le_succ_of_le HDn.out.ls, Nat.le_succ_of_le HDn.out.lw⟩⟩
                      case measure => simp [intOf]; omega
                    · have hr2 : Hid ((readD s).2 = false) := by show _ = _; rw [hR2.out, HEQ.out, hpp.out]; rfl
                      obtain ⟨vs, vw, hO⟩ := HD.out.own
                      have hone := ownCells_one hO
                      have hcl : CellsAt _ g 0 (ownCells _ vs vw) := hO.blk.cellsAt
                      have hres := RdD.res HD.out HB2.out hgw
                      have hkw := RdD.keepw HD.out HK2.out hgw
                      have HO := Lib.hid hO
                      clear hO
                      go_wp2_with (first
                        | (refine wpList_load_agg rfl 45 (.tmp 5) rfl rfl (cs := ownCells _ vs vw) agg_step hcl ?_)
                        | (refine stop_store 45 (.tmp 2) (.tmp 152) rfl ?_))
                      constructor
                      refine wpList_store_all rfl 45 (.tmp 2) (.tmp 152) rfl rfl rfl (vs := ownCells _ vs vw) agg_step.2 hres hone rfl ?_
                      intro w9 d9 k9
                      have HK9 := Lib.hid k9
                      clear k9 hres hone hcl
                      go_wp2
                      refine bodyPost_ret (st_results rfl _ rfl rfl d9 agg_step) rfl ?_
                      exact RdD.post HO.out hgw hkw HK9.out hr2.out.symm (fun h => by cases h)
              · skip
                go_wp2
                generalize wr = wo at *
                go_loopw [10] (fun v10 wr => v10 = .int .i64 (i : Int) ∧ wo = wr) (fun _ _ => 0)
                case atStart => exact ⟨rfl, rfl⟩
                case round =>
                  obtain ⟨rfl, rfl⟩ := hrel
                  by_cases hil : i = rest.length + 1
                  · have hge : decide ((rest.length : Int) + 1 ≤ (i : Int)) = true := decide_eq_true (by omega)
                    have hr2 : Hid ((readD s).2 = false) := by show _ = _; rw [hR2.out, HEQ.out, hnil hil, partsR_cons]; rfl
                    clear hil hpq hnil
                    obtain ⟨vs, vw, hO⟩ := HD.out.own
                    have hone := ownCells_one hO
                    have hcl : CellsAt _ g 0 (ownCells _ vs vw) := hO.blk.cellsAt
                    have hres := RdD.res HD.out HB2.out hgw
                    have hkw := RdD.keepw HD.out HK2.out hgw
                    have HO := Lib.hid hO
                    clear hO
                    go_wp2_with (first
                      | (refine wpList_load_agg rfl 45 (.tmp 5) rfl rfl (cs := ownCells _ vs vw) agg_step hcl ?_)
                      | (refine stop_store 45 (.tmp 2) (.tmp 126) rfl ?_))
                    constructor
                    refine wpList_store_all rfl 45 (.tmp 2) (.tmp 126) rfl rfl rfl (vs := ownCells _ vs vw) agg_step.2 hres hone rfl ?_
                    intro w9 d9 k9
                    have HK9 := Lib.hid k9
                    clear k9 hres hone hcl
                    go_wp2
                    refine bodyPost_ret (st_results rfl _ rfl rfl d9 agg_step) rfl ?_
                    exact RdD.post HO.out hgw hkw HK9.out hr2.out.symm (fun h => by cases h)
                  · have hge : decide ((rest.length : Int) + 1 ≤ (i : Int)) = false := decide_eq_false (by omega)
                    obtain ⟨q, hq1, hq2, hq3⟩ := hpq (by omega)
                    have hcq := HD.out.cell hpb hq3
                    have hi0 : (0 : Int) ≤ (i : Int) := by omega
                    have hi3 : (i : Int) < (rest.length : Int) + 1 := by omega
                    have HRq := fun W => Lib.hid (rread_fix q W hq2)
                    have herr := readP_err (bytesOf q)
                    have hpp : Hid (partsR st (110 :: cs1) (q :: rest.drop i) = if ((readP (bytesOf q)).2 == 0) = true then partsR { st with n := (readP (bytesOf q)).1 } cs1 (rest.drop i) else none) := rfl
                    generalize readP (bytesOf q) = r at *
                    obtain ⟨r1, r2⟩ := r
                    dsimp only at *
                    rw [hq1] at HEQ
                    clear hq1 hq3 hpq hnil hil
                    go_wp2_with fail
                    refine (HRq _).out.mono ?_
                    rintro e w3 ⟨rfl, k3⟩
                    have hD3 := HD.out.keep0 hgle k3
                    obtain ⟨e0, e1, e2, f0, f1, f2⟩ := hD3.cell0
                    replace HD := Lib.hid hD3
                    clear hD3 k3
                    rcases herr with rfl | rfl
                    · have HDn := Lib.hid (HD.out.num hgle 2 (.int .i64 r1) (st' := { st with n := r1 }) (fun vs vw => rfl) rfl rfl)
                      have HE2 : Hid (partsR { noStp with kind := kd } (partsL pa) rest = partsR { st with n := r1 } cs1 (rest.drop i)) := HEQ.out.trans hpp.out
                      clear hpp HEQ
                      go_wp2
                      go_roundw
                      case rel => exact ⟨k + 1, i + 1, _, by omega, by go_num, by go_num, by omega, by omega, by rw [HE2.out, HCS.out, Nat.add_sub_cancel], ⟨HDn.out.own, HDn.out.kp, Nat.le_succ_of_le HDn.out.ls, Nat.le_succ_of_le HDn.out.lw⟩⟩
                      case measure => simp [intOf]; omega
                    · have hr2 : Hid ((readD s).2 = false) := by show _ = _; rw [hR2.out, HEQ.out, hpp.out]; rfl
                      obtain ⟨vs, vw, hO⟩ := HD.out.own
                      have hone := ownCells_one hO
                      have hcl : CellsAt _ g 0 (ownCells _ vs vw) := hO.blk.cellsAt
                      have hres := RdD.res HD.out HB2.out hgw
                      have hkw := RdD.keepw HD.out HK2.out hgw
                      have HO := Lib.hid hO
                      clear hO
                      go_wp2_with (first
                        | (refine wpList_load_agg rfl 45 (.tmp 5) rfl rfl (cs := ownCells _ vs vw) agg_step hcl ?_)
                        | (refine stop_store 45 (.tmp 2) (.tmp 152) rfl ?_))
                      constructor
                      refine wpList_store_all rfl 45 (.tmp 2) (.tmp 152) rfl rfl rfl (vs := ownCells _ vs vw) agg_step.2 hres hone rfl ?_
                      intro w9 d9 k9
                      have HK9 := Lib.hid k9
                      clear k9 hres hone hcl
                      go_wp2
                      refine bodyPost_ret (st_results rfl _ rfl rfl d9 agg_step) rfl ?_
                      exact RdD.post HO.out hgw hkw HK9.out hr2.out.symm (fun h => by cases h)
              · skip
                go_wp2
                generalize wr = wo at *
                go_loopw [10] (fun v10 wr => v10 = .int .i64 (i : Int) ∧ wo = wr) (fun _ _ => 0)
                case atStart => exact ⟨rfl, rfl⟩
                case round =>
                  obtain ⟨rfl, rfl⟩ := hrel
                  by_cases hil : i = rest.length + 1
                  · have hge : decide ((rest.length : Int) + 1 ≤ (i : Int)) = true := decide_eq_true (by omega)
                    have hr2 : Hid ((readD s).2 = false) := by show _ = _; rw [hR2.out, HEQ.out, hnil hil, partsR_cons]; rfl
                    clear hil hpq hnil
                    obtain ⟨vs, vw, hO⟩ := HD.out.own
                    have hone := ownCells_one hO
                    have hcl : CellsAt _ g 0 (ownCells _ vs vw) := hO.blk.cellsAt
                    have hres := RdD.res HD.out HB2.out hgw
                    have hkw := RdD.keepw HD.out HK2.out hgw
                    have HO := Lib.hid hO
                    clear hO
                    go_wp2_with (first
                      | (refine wpList_load_agg rfl 45 (.tmp 5) rfl rfl (cs := ownCells _ vs vw) agg_step hcl ?_)
                      | (refine stop_store 45 (.tmp 2) (.tmp 126) rfl ?_))
                    constructor
                    refine wpList_store_all rfl 45 (.tmp 2) (.tmp 126) rfl rfl rfl (vs := ownCells _ vs vw) agg_step.2 hres hone rfl ?_
                    intro w9 d9 k9
                    have HK9 := Lib.hid k9
                    clear k9 hres hone hcl
                    go_wp2
                    refine bodyPost_ret (st_results rfl _ rfl rfl d9 agg_step) rfl ?_
                    exact RdD.post HO.out hgw hkw HK9.out hr2.out.symm (fun h => by cases h)
                  · have hge : decide ((rest.length : Int) + 1 ≤ (i : Int)) = false := decide_eq_false (by omega)
                    obtain ⟨q, hq1, hq2, hq3⟩ := hpq (by omega)
                    have hcq := HD.out.cell hpb hq3
                    have hi0 : (0 : Int) ≤ (i : Int) := by omega
                    have hi3 : (i : Int) < (rest.length : Int) + 1 := by omega
                    have HRq := fun W => Lib.hid (rread_fix q W hq2)
                    have herr := readP_err (bytesOf q)
                    have HWq := fun W => Lib.hid (rreadWord_fix q W hq2)
                    have herw := readWP_err (bytesOf q)
                    have hwlt := readWP_lt (bytesOf q)
                    have hpp : Hid (partsR st (104 :: cs1) (q :: rest.drop i) = if ((readWP (bytesOf q)).2 == 0) = true then partsR { st with n := ((readWP (bytesOf q)).1 : Int) } cs1 (rest.drop i) else none) := rfl
                    clear herr
                    generalize readP (bytesOf q) = rr at *
                    obtain ⟨rr1, rr2⟩ := rr
                    generalize readWP (bytesOf q) = r at *
                    obtain ⟨r1, r2⟩ := r
                    dsimp only at *
                    rw [hq1] at HEQ
                    have hq3x := hq3
                    clear hq1 hpq hnil hil
                    go_wp2_with fail
                    refine (HRq _).out.mono ?_
                    rintro e w3 ⟨rfl, k3⟩
                    have hD3 := HD.out.keep0 hgle k3
                    replace HD := Lib.hid hD3
                    have hcq3 := hD3.cell hpb hq3x
                    clear hD3 k3 hcq
                    go_wp2_with fail
                    refine (HWq _).out.mono ?_
                    rintro e w4 ⟨rfl, k4⟩
                    have hD4 := HD.out.keep0 hgle k4
                    obtain ⟨e0, e1, e2, f0, f1, f2⟩ := hD4.cell0
                    replace HD := Lib.hid hD4
                    clear hD4 k4
                    rcases herw with rfl | rfl
                    · have HDn := Lib.hid (HD.out.num hgle 2 (.int .i64 (r1 : Int)) (st' := { st with n := (r1 : Int) }) (fun vs vw => rfl) rfl rfl)
                      have HE2 : Hid (partsR { noStp with kind := kd } (partsL pa) rest = partsR { st with n := (r1 : Int) } cs1 (rest.drop i)) := HEQ.out.trans hpp.out
                      clear hpp HEQ
                      go_wp2
                      go_roundw
                      case rel => exact ⟨k + 1, i + 1, _, by omega, by go_num, by go_num, by omega, by omega, by rw [HE2.out, HCS.out, Nat.add_sub_cancel], ⟨HDn.out.own, HDn.out.kp, Nat.le_succ_of_le HDn.out.ls, Nat.le_succ_of_le HDn.out.lw⟩⟩
                      case measure => simp [intOf]; omega
                    · have hr2 : Hid ((readD s).2 = false) := by show _ = _; rw [hR2.out, HEQ.out, hpp.out]; rfl
                      obtain ⟨vs, vw, hO⟩ := HD.out.own
                      have hone := ownCells_one hO
                      have hcl : CellsAt _ g 0 (ownCells _ vs vw) := hO.blk.cellsAt
                      have hres := RdD.res HD.out HB2.out hgw
                      have hkw := RdD.keepw HD.out HK2.out hgw
                      have HO := Lib.hid hO
                      clear hO
                      go_wp2_with (first
                        | (refine wpList_load_agg rfl 45 (.tmp 5) rfl rfl (cs := ownCells _ vs vw) agg_step hcl ?_)
                        | (refine stop_store 45 (.tmp 2) (.tmp 152) rfl ?_))
                      constructor
                      refine wpList_store_all rfl 45 (.tmp 2) (.tmp 152) rfl rfl rfl (vs := ownCells _ vs vw) agg_step.2 hres hone rfl ?_
                      intro w9 d9 k9
                      have HK9 := Lib.hid k9
                      clear k9 hres hone hcl
                      go_wp2
                      refine bodyPost_ret (st_results rfl _ rfl rfl d9 agg_step) rfl ?_
                      exact RdD.post HO.out hgw hkw HK9.out hr2.out.symm (fun h => by cases h)
              · skip
                have HPR : Hid (partsR st (115 :: cs1) (rest.drop (i - 1)) = (absorb st 115 (rest.drop (i - 1))).bind (fun s' => partsR s' cs1 [])) := by show _ = _; rw [partsR_cons, if_pos (by decide)]
                clear hpq
                go_wp2
                generalize wr = wo at *
                go_loopw [10] (fun v10 wr => ∃ (i1 : Nat) (st1 : Stp), v10 = .int .i64 (i1 : Int) ∧ 1 ≤ i1 ∧ i1 ≤ rest.length + 1 ∧ absorb st 115 (rest.drop (i - 1)) = absorb st1 115 (rest.drop (i1 - 1)) ∧ RdD W2 wr g st1 i1) (fun v10 _ => rest.length + 1 - (intOf v10).toNat)
                case atStart => exact ⟨i, st, rfl, hi1, hi2, rfl, HD.out⟩
                case round =>
                  obtain ⟨i1, st1, rfl, hj1, hj2, hab, hD1⟩ := hrel
                  have HD1 := Lib.hid hD1
                  have HAB := Lib.hid hab
                  clear hD1 hab HD
                  by_cases hil : i1 = rest.length + 1
                  · have hge : decide ((i1 : Int) < (rest.length : Int) + 1) = false := decide_eq_false (by omega)
                    have HEN : Hid (partsR { noStp with kind := kd } (partsL pa) rest = partsR st1 cs1 []) := by
                      show _ = _
                      rw [HEQ.out, HPR.out, HAB.out, show rest.drop (i1 - 1) = [] by rw [List.drop_eq_nil_iff]; omega]
                      rfl
                    have hdn : Hid (rest.drop (i1 - 1) = []) := by show _ = _; rw [List.drop_eq_nil_iff]; omega
                    clear hil
                    go_wp2
                    go_roundw
                    case rel => exact ⟨k + 1, i1, st1, by omega, by go_num, rfl, hj1, hj2, by rw [HEN.out, HCS.out, hdn.out], HD1.out⟩
                    case measure => simp [intOf]; omega
                  · have hge : decide ((i1 : Int) < (rest.length : Int) + 1) = true := decide_eq_true (by omega)
                    obtain ⟨q, hq1, hq2, hq3⟩ : ∃ q, rest.drop (i1 - 1) = q :: rest.drop i1 ∧ q.size ≤ 1000000 ∧ W2.cell? ⟨pb, po + i1, none⟩ = some (.string q) := by
                      have h1 : i1 - 1 < rest.length := by omega
                      refine ⟨rest[i1 - 1], ?_, ?_, ?_⟩
                      · rw [List.drop_eq_getElem_cons h1, show i1 - 1 + 1 = i1 by omega]
                      · have := hpz rest[i1 - 1] (List.mem_cons_of_mem _ (List.getElem_mem h1)); omega
                      · have := HPC.out i1 (by simp; omega)
                        rw [this]
                        congr 2
                        obtain ⟨i0, rfl⟩ : ∃ i0, i1 = i0 + 1 := ⟨i1 - 1, by omega⟩
                        rfl
                    have hi0 : (0 : Int) ≤ (i1 : Int) := by omega
                    have hi3 : (i1 : Int) < (rest.length : Int) + 1 := by omega
                    have hil2 : i1 ≤ rest.length := by omega
                    rw [hq1] at HAB
                    go_upto_region 22 with fail
                    obtain ⟨V, hV⟩ : ∃ V, wr.alloc (.cells #[.int .i64 0, .int .i64 0, .int .i64 0] 85) = V := ⟨_, rfl⟩
                    have hd : Blk V wr.heap.size 85 #[.int .i64 0, .int .i64 0, .int .i64 0] := by rw [← hV]; exact Blk.new _ _ _
                    have HDr := HD1
                    have HKV : Hid (Keep [] wr V) := (show Keep [] wr V by rw [← hV]; exact (Keep.refl _ _).alloc _)
                    have hDV := HD1.out.keep0 hgle HKV.out
                    have hcq := hDV.cell hpb hq3
                    replace HD1 := Lib.hid hDV
                    have hzV := hd.lt
                    simp only [hV]
                    clear hDV hq1 hil hnil hV
                    have HSq := fun W => Lib.hid (rsect_any q W hq2)
                    have hpp : Hid (absorb st1 115 (q :: rest.drop i1) = if (sectP q).2 = true then absorb { st1 with secs := st1.secs ++ [(sectP q).1] } 115 (rest.drop i1) else none) := rfl
                    generalize sectP q = r at *
                    obtain ⟨r1, r2⟩ := r
                    dsimp only at *
                    go_wp2_with fail
                    refine (HSq _).out.mono ?_
                    rintro e w3 ⟨rfl, k3⟩
                    have hd3 := hd.keep0 k3
                    have HK3 := Lib.hid k3
                    have hz3 := k3.size
                    clear hd k3 hcq
                    have hv : ∀ y, y ∈ sctCells r1 → y.oneCell' = true := by intro y hy; simp [sctCells, sctInts] at hy; rcases hy with rfl | rfl | rfl <;> rfl
                    go_wp2_with (refine stop_store 85 (.tmp 12) (.tmp 81) rfl ?_)
                    constructor
                    refine wpList_store_all rfl 85 (.tmp 12) (.tmp 81) rfl rfl rfl (vs := sctCells r1) agg_section.2 hd3 hv rfl ?_
                    intro w4 d4 k4
                    have kr4 : Keep [] wr w4 := (HKV.out.then HK3.out).trans k4 (fun y hy h => by simp at hy; omega)
                    have hD4 := HDr.out.keep0 hgle kr4
                    obtain ⟨vs, vw, hO⟩ := hD4.own
                    have c3 : w4.cell? ⟨g, 3, none⟩ = some vs := hO.blk.cell 3
                    have f3 := hO.blk.frozen 3
                    have hcs : CellsAt w4 wr.heap.size 0 [.int .i64 r1.res, .int .i64 r1.frm, .int .i64 r1.to] := d4.cellsAt
                    have hown := hO.secs
                    have hls4 := hD4.ls
                    have hB : g ≤ w4.heap.size := by have := hO.blk.lt; omega
                    have hnB : g ∉ vs.ownBlock.toList := fun hm => hO.ne_secs (by simpa using hm)
                    have HO := Lib.hid hO
                    have HD4 := Lib.hid hD4
                    have HNB := Lib.hid hnB
                    clear hO hD4 kr4 k4 d4 hnB
                    go_upto_region 27 with (first
                      | (refine wpList_load_agg rfl 85 (.tmp 12) rfl rfl (cs := [.int .i64 r1.res, .int .i64 r1.frm, .int .i64 r1.to]) agg_section hcs ?_)
                      | (at_builtin; refine wpList_append_one rfl (.tmp 84) (.tmp 86) 42 rfl slice_sct hown rfl rfl (us := [.int .i64 r1.res, .int .i64 r1.frm, .int .i64 r1.to]) rfl (by simp [Value.oneCell']) hB (by omega) (by unfold maxLen; omega) ?_; intro v' w5 hown5 k5 hat5; obtain ⟨A', c', rfl⟩ := own_shape hown5; have b5 := HO.out.blk.keep k5 HNB.out; have c5 := b5.cell 3; have f5 := b5.frozen 3; simp [ownCells] at c5))
                    have HD := Lib.hid (RdD.sec HD4.out HO.out r1 hown5 k5)
                    clear hown5 k5 hat5 HD4 HO HNB b5 c5 f5
                    cases r2
                    · have hr2 : Hid ((readD s).2 = false) := by show _ = _; rw [hR2.out, HEQ.out, HPR.out, HAB.out, hpp.out]; rfl
                      obtain ⟨vs, vw, hO⟩ := HD.out.own
                      have hone := ownCells_one hO
                      have hcl : CellsAt _ g 0 (ownCells _ vs vw) := hO.blk.cellsAt
                      have hres := RdD.res HD.out HB2.out hgw
                      have hkw := RdD.keepw HD.out HK2.out hgw
                      have HO := Lib.hid hO
                      clear hO
                      go_wp2_with (first
                        | (refine wpList_load_agg rfl 45 (.tmp 5) rfl rfl (cs := ownCells _ vs vw) agg_step hcl ?_)
                        | (refine stop_store 45 (.tmp 2) (.tmp 109) rfl ?_))
                      constructor
                      refine wpList_store_all rfl 45 (.tmp 2) (.tmp 109) rfl rfl rfl (vs := ownCells _ vs vw) agg_step.2 hres hone rfl ?_
                      intro w9 d9 k9
                      have HK9 := Lib.hid k9
                      clear k9 hres hone hcl
                      go_wp2
                      refine bodyPost_ret (st_results rfl _ rfl rfl d9 agg_step) rfl ?_
                      exact RdD.post HO.out hgw hkw HK9.out hr2.out.symm (fun h => by cases h)
                    · have HA2 : Hid (absorb st 115 (rest.drop (i - 1)) = absorb { st1 with secs := st1.secs ++ [r1] } 115 (rest.drop i1)) := HAB.out.trans hpp.out
                      clear hpp HAB
                      go_wp2
                      go_roundw
                      case rel => exact ⟨i1 + 1, _, by go_num, by omega, by omega, by rw [HA2.out, Nat.add_sub_cancel], HD.out⟩
                      case measure => simp [intOf]; omega
              · skip
                have HPR : Hid (partsR st (119 :: cs1) (rest.drop (i - 1)) = (absorb st 119 (rest.drop (i - 1))).bind (fun s' => partsR s' cs1 [])) := by show _ = _; rw [partsR_cons, if_pos (by decide)]
                clear hpq
                go_wp2
                generalize wr = wo at *
                go_loopw [10] (fun v10 wr => ∃ (i1 : Nat) (st1 : Stp), v10 = .int .i64 (i1 : Int) ∧ 1 ≤ i1 ∧ i1 ≤ rest.length + 1 ∧ absorb st 119 (rest.drop (i - 1)) = absorb st1 119 (rest.drop (i1 - 1)) ∧ RdD W2 wr g st1 i1) (fun v10 _ => rest.length + 1 - (intOf v10).toNat)
                case atStart => exact ⟨i, st, rfl, hi1, hi2, rfl, HD.out⟩
                case round =>
                  obtain ⟨i1, st1, rfl, hj1, hj2, hab, hD1⟩ := hrel
                  have HD1 := Lib.hid hD1
                  have HAB := Lib.hid hab
                  clear hD1 hab HD
                  by_cases hil : i1 = rest.length + 1
                  · have hge : decide ((i1 : Int) < (rest.length : Int) + 1) = false := decide_eq_false (by omega)
                    have HEN : Hid (partsR { noStp with kind := kd } (partsL pa) rest = partsR st1 cs1 []) := by
                      show _ = _
                      rw [HEQ.out, HPR.out, HAB.out, show rest.drop (i1 - 1) = [] by rw [List.drop_eq_nil_iff]; omega]
                      rfl
                    have hdn : Hid (rest.drop (i1 - 1) = []) := by show _ = _; rw [List.drop_eq_nil_iff]; omega
                    clear hil
                    go_wp2
                    go_roundw
                    case rel => exact ⟨k + 1, i1, st1, by omega, by go_num, rfl, hj1, hj2, by rw [HEN.out, HCS.out, hdn.out], HD1.out⟩
                    case measure => simp [intOf]; omega
                  · have hge : decide ((i1 : Int) < (rest.length : Int) + 1) = true := decide_eq_true (by omega)
                    obtain ⟨q, hq1, hq2, hq3⟩ : ∃ q, rest.drop (i1 - 1) = q :: rest.drop i1 ∧ q.size ≤ 1000000 ∧ W2.cell? ⟨pb, po + i1, none⟩ = some (.string q) := by
                      have h1 : i1 - 1 < rest.length := by omega
                      refine ⟨rest[i1 - 1], ?_, ?_, ?_⟩
                      · rw [List.drop_eq_getElem_cons h1, show i1 - 1 + 1 = i1 by omega]
                      · have := hpz rest[i1 - 1] (List.mem_cons_of_mem _ (List.getElem_mem h1)); omega
                      · have := HPC.out i1 (by simp; omega)
                        rw [this]
                        congr 2
                        obtain ⟨i0, rfl⟩ : ∃ i0, i1 = i0 + 1 := ⟨i1 - 1, by omega⟩
                        rfl
                    have hi0 : (0 : Int) ≤ (i1 : Int) := by omega
                    have hi3 : (i1 : Int) < (rest.length : Int) + 1 := by omega
                    have hil2 : i1 ≤ rest.length := by omega
                    rw [hq1] at HAB
                    go_upto_region 22 with fail
                    obtain ⟨V, hV⟩ : ∃ V, wr.alloc (.cells #[.int .i64 0, .int .i64 0, .int .i64 0] 85) = V := ⟨_, rfl⟩
                    have hd : Blk V wr.heap.size 85 #[.int .i64 0, .int .i64 0, .int .i64 0] := by rw [← hV]; exact Blk.new _ _ _
                    have HDr := HD1
                    have HKV : Hid (Keep [] wr V) := (show Keep [] wr V by rw [← hV]; exact (Keep.refl _ _).alloc _)
                    have hDV := HD1.out.keep0 hgle HKV.out
                    have hcq := hDV.cell hpb hq3
                    replace HD1 := Lib.hid hDV
                    have hzV := hd.lt
                    simp only [hV]
                    clear hDV hq1 hil hnil hV
                    have HSq := fun W => Lib.hid (rreadWord_fix q W hq2)
                    have herw := readWP_err (bytesOf q)
                    have hwlt := readWP_lt (bytesOf q)
                    have hpp : Hid (absorb st1 119 (q :: rest.drop i1) = if ((readWP (bytesOf q)).2 == 0) = true then absorb { st1 with words := st1.words ++ [(readWP (bytesOf q)).1] } 119 (rest.drop i1) else none) := rfl
                    generalize readWP (bytesOf q) = r at *
                    obtain ⟨r1, r2⟩ := r
                    dsimp only at *
                    go_wp2_with fail
                    refine (HSq _).out.mono ?_
                    rintro e w4 ⟨rfl, k3⟩
                    have hD4 := HD1.out.keep0 hgle k3
                    obtain ⟨vs, vw, hO⟩ := hD4.own
                    have c3 : w4.cell? ⟨g, 4, none⟩ = some vw := hO.blk.cell 4
                    have f3 := hO.blk.frozen 4
                    have hown := hO.words
                    have hlw4 := hD4.lw
                    have hB : g ≤ w4.heap.size := by have := hO.blk.lt; omega
                    have hnB : g ∉ vw.ownBlock.toList := fun hm => hO.ne_words (by simpa using hm)
                    have HO := Lib.hid hO
                    have HD4 := Lib.hid hD4
                    have HNB := Lib.hid hnB
                    clear hO hD4 k3 hnB hcq hd
                    go_upto_region 27 with (at_builtin; refine wpList_append_one rfl (.tmp 98) (.tmp 100) 43 rfl slice_u32S hown rfl rfl (us := [.int .u32 (r1 : Int)]) rfl (by simp [Value.oneCell']) hB (by omega) (by unfold maxLen; omega) ?_; intro v' w5 hown5 k5 hat5; obtain ⟨A', c', rfl⟩ := own_shape hown5; have b5 := HO.out.blk.keep k5 HNB.out; have c5 := b5.cell 4; have f5 := b5.frozen 4; simp [ownCells] at c5)
                    have HD := Lib.hid (RdD.word HD4.out HO.out r1 hown5 k5)
                    clear hown5 k5 hat5 HD4 HO HNB b5 c5 f5
                    rcases herw with rfl | rfl
                    · have HA2 : Hid (absorb st 119 (rest.drop (i - 1)) = absorb { st1 with words := st1.words ++ [r1] } 119 (rest.drop i1)) := HAB.out.trans hpp.out
                      clear hpp HAB
                      go_wp2
                      go_roundw
                      case rel => exact ⟨i1 + 1, _, by go_num, by omega, by omega, by rw [HA2.out, Nat.add_sub_cancel], HD.out⟩
                      case measure => simp [intOf]; omega
                    · have hr2 : Hid ((readD s).2 = false) := by show _ = _; rw [hR2.out, HEQ.out, HPR.out, HAB.out, hpp.out]; rfl
                      obtain ⟨vs, vw, hO⟩ := HD.out.own
                      have hone := ownCells_one hO
                      have hcl : CellsAt _ g 0 (ownCells _ vs vw) := hO.blk.cellsAt
                      have hres := RdD.res HD.out HB2.out hgw
                      have hkw := RdD.keepw HD.out HK2.out hgw
                      have HO := Lib.hid hO
                      clear hO
                      go_wp2_with (first
                        | (refine wpList_load_agg rfl 45 (.tmp 5) rfl rfl (cs := ownCells _ vs vw) agg_step hcl ?_)
                        | (refine stop_store 45 (.tmp 2) (.tmp 109) rfl ?_))
                      constructor
                      refine wpList_store_all rfl 45 (.tmp 2) (.tmp 109) rfl rfl rfl (vs := ownCells _ vs vw) agg_step.2 hres hone rfl ?_
                      intro w9 d9 k9
                      have HK9 := Lib.hid k9
                      clear k9 hres hone hcl
                      go_wp2
                      refine bodyPost_ret (st_results rfl _ rfl rfl d9 agg_step) rfl ?_
                      exact RdD.post HO.out hgw hkw HK9.out hr2.out.symm (fun h => by cases h)
            · obtain rfl : k = pa.size := by omega
              have hdp : Hid ((partsL pa).drop pa.size = []) := by show _ = _; rw [List.drop_eq_nil_iff]; unfold partsL; simp
              have HE2 : Hid (readD s = doneR (some (st, (rest.drop (i - 1)).isEmpty))) := by show _ = _; rw [hR2.out, HEQ.out, hdp.out]; rfl
              clear hpc5 hk hlt
              by_cases hil : i = rest.length + 1
              · have hge : ((i : Int) == (rest.length : Int) + 1) = true := by rw [beq_iff_eq]; omega
                have hr2 : Hid (readD s = (st, true)) := by
                  show _ = _
                  rw [HE2.out, show rest.drop (i - 1) = [] by rw [List.drop_eq_nil_iff]; omega]
                  rfl
                clear hil
                obtain ⟨vs, vw, hO⟩ := HD.out.own
                have hone := ownCells_one hO
                have hcl : CellsAt _ g 0 (ownCells _ vs vw) := hO.blk.cellsAt
                have hres := RdD.res HD.out HB2.out hgw
                have hkw := RdD.keepw HD.out HK2.out hgw
                have HO := Lib.hid hO
                clear hO
                go_wp2_with (first
                  | (refine wpList_load_agg rfl 45 (.tmp 5) rfl rfl (cs := ownCells _ vs vw) agg_step hcl ?_)
                  | (refine stop_store 45 (.tmp 2) (.tmp 163) rfl ?_))
                constructor
                refine wpList_store_all rfl 45 (.tmp 2) (.tmp 163) rfl rfl rfl (vs := ownCells _ vs vw) agg_step.2 hres hone rfl ?_
                intro w9 d9 k9
                have HK9 := Lib.hid k9
                clear k9 hres hone hcl
                go_wp2
                refine bodyPost_ret (st_results rfl _ rfl rfl d9 agg_step) rfl ?_
                exact RdD.post HO.out hgw hkw HK9.out (show true = (readD s).2 by rw [hr2.out]) (fun _ => by rw [hr2.out])
              · have hge : ((i : Int) == (rest.length : Int) + 1) = false := by rw [beq_eq_false_iff_ne]; omega
                have hr2 : Hid ((readD s).2 = false) := by
                  show _ = _
                  have h1 : rest.drop (i - 1) ≠ [] := fun h => by rw [List.drop_eq_nil_iff] at h; omega
                  rw [HE2.out, List.isEmpty_eq_false_iff.2 h1]
                  rfl
                clear hil
                obtain ⟨vs, vw, hO⟩ := HD.out.own
                have hone := ownCells_one hO
                have hcl : CellsAt _ g 0 (ownCells _ vs vw) := hO.blk.cellsAt
                have hres := RdD.res HD.out HB2.out hgw
                have hkw := RdD.keepw HD.out HK2.out hgw
                have HO := Lib.hid hO
                clear hO
                go_wp2_with (first
                  | (refine wpList_load_agg rfl 45 (.tmp 5) rfl rfl (cs := ownCells _ vs vw) agg_step hcl ?_)
                  | (refine stop_store 45 (.tmp 2) (.tmp 163) rfl ?_))
                constructor
                refine wpList_store_all rfl 45 (.tmp 2) (.tmp 163) rfl rfl rfl (vs := ownCells _ vs vw) agg_step.2 hres hone rfl ?_
                intro w9 d9 k9
                have HK9 := Lib.hid k9
                clear k9 hres hone hcl
                go_wp2
                refine bodyPost_ret (st_results rfl _ rfl rfl d9 agg_step) rfl ?_
                exact RdD.post HO.out hgw hkw HK9.out hr2.out.symm (fun h => by cases h)
end Go.Proofs.Ytoepkhkaifgddaa
