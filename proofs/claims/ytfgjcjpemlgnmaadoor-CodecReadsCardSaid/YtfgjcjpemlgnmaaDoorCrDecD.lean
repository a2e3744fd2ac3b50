/- The document's Decode: what it makes of a row of words; walked. No condition. -/
import Derived.Test.YtfgjcjpemlgnmaaDoorCrRt
namespace Go.Proofs.YtfgjcjpemlgnmaaDoor
open Go.RowKit

section
variable {P : Program} {ops : Array Oper} {rest : List Oper} {o : Oper} {a : Act} {Q : Exit → Act → World → Prop} {w : World}
theorem wpList_runsD (hgd : o.guard = none) {v : Value} {w' : World} (he : (execOp a.eval o).run P w = .ok (.value v) w') (h : wpList P ops Q rest (a.put o.dst v) w') : wpList P ops Q (o :: rest) a w := by
  refine wpList_plain hgd fun K hK => ?_
  unfold Oper.wp
  rw [he]
  exact hK _ _ h
end
theorem foldD_le (l : List Int) (c : Nat → Bool) (n0 : Nat) (lon : List Int) (p : Nat) : ∀ n, ((List.range n).foldl (fun q k => if c k = true then fillD l q k else q) (lon, p)).1.length = lon.length ∧ ((List.range n).foldl (fun q k => if c k = true then fillD l q k else q) (lon, p)).2 ≤ p + n
  | 0 => ⟨rfl, Nat.le_refl _⟩
  | n + 1 => by
    obtain ⟨h1, h2⟩ := foldD_le l c n0 lon p n
    rw [List.range_succ, List.foldl_append, List.foldl_cons, List.foldl_nil]
    generalize (List.range n).foldl (fun q k => if c k = true then fillD l q k else q) (lon, p) = F at *
    split
    · exact ⟨by unfold fillD; rw [List.length_set, h1], by unfold fillD; dsimp only; omega⟩
    · exact ⟨h1, by omega⟩
theorem taskD_le (l : List Int) (i : Nat) : (taskD l i).1.lon.length = 8 ∧ (taskD l i).2 ≤ i + 12 := by
  have h := foldD_le l (fun k => (atD l (i + 3)).toNat.testBit k) 0 (List.replicate 8 0) (i + 4) 8
  unfold taskD
  dsimp only
  exact ⟨h.1, by have := h.2; omega⟩
theorem modeD_le (l : List Int) (hl : ∀ n ∈ l, 0 ≤ n ∧ n < 4294967296) (i : Nat) : (modeD l i).1.set < 4294967296 ∧ (modeD l i).2 ≤ i + 12 := by
  have h := atD_in hl i
  unfold modeD
  dsimp only
  exact ⟨by omega, by omega⟩
theorem edgeD_le (l : List Int) (x : Img) (i : Nat) : ((edgeD l x i).1.offs.length = 16 ∧ (edgeD l x i).1.mp.length = 4) ∧ (edgeD l x i).2 ≤ i + 23 := by
  unfold edgeD
  dsimp only
  split
  · have h := foldD_le l (fun k => ((setOf10 x (atD l (i + 1))).testBit k && !(setOf10 x (atD l i)).testBit k)) 0 (List.replicate 16 0) (i + 7) 16
    exact ⟨⟨h.1, rfl⟩, by have := h.2; omega⟩
  · exact ⟨⟨rfl, rfl⟩, by omega⟩
theorem tsD_le (l : List Int) (i : Nat) : ∀ n, (tsD l i n).1.length = n ∧ (tsD l i n).2 ≤ i + 12 * n
  | 0 => ⟨rfl, by show i ≤ _; omega⟩
  | n + 1 => by
    obtain ⟨h1, h2⟩ := tsD_le l i n
    have h3 := (taskD_le l (tsD l i n).2).2
    exact ⟨by show ((tsD l i n).1 ++ [_]).length = _; simp [h1], by show (taskD l (tsD l i n).2).2 ≤ _; omega⟩
theorem msD_le (l : List Int) (hl : ∀ n ∈ l, 0 ≤ n ∧ n < 4294967296) (i : Nat) : ∀ n, (msD l i n).1.length = n ∧ (msD l i n).2 ≤ i + 12 * n
  | 0 => ⟨rfl, by show i ≤ _; omega⟩
  | n + 1 => by
    obtain ⟨h1, h2⟩ := msD_le l hl i n
    have h3 := (modeD_le l hl (msD l i n).2).2
    exact ⟨by show ((msD l i n).1 ++ [_]).length = _; simp [h1], by show (modeD l (msD l i n).2).2 ≤ _; omega⟩
theorem esD_le (l : List Int) (x : Img) (i : Nat) : ∀ n, (esD l x i n).1.length = n ∧ (esD l x i n).2 ≤ i + 23 * n
  | 0 => ⟨rfl, by show i ≤ _; omega⟩
  | n + 1 => by
    obtain ⟨h1, h2⟩ := esD_le l x i n
    have h3 := (edgeD_le l { x with edges := (esD l x i n).1 } (esD l x i n).2).2
    exact ⟨by show ((esD l x i n).1 ++ [_]).length = _; simp [h1], by show (edgeD l { x with edges := (esD l x i n).1 } (esD l x i n).2).2 ≤ _; omega⟩
/-- Where the document's Decode stands. -/
structure DecT (w W : World) (g : Nat) (x : Img) (vt vm ve : Value) (ms : List (Mdd × Option Addr × Nat)) : Prop where
  img : Blk W g 26 #[.int .i64 x.res, vt, vm, ve]
  res : Blk W w.heap.size 26 #[.int .i64 0, .slice none 0 0, .slice none 0 0, .slice none 0 0]
  own : OwnImg W w.heap.size x vt vm ve ms
  keep : Keep [] w W
/-- What the document's Decode answers. -/
def docR (l : List Int) : Img × Int := match docD l with | some x => (x, 0) | none => (⟨0, [], [], []⟩, 110)
section
variable {w W W' : World} {g : Nat} {x : Img} {vt vm ve : Value} {ms : List (Mdd × Option Addr × Nat)}
theorem DecT.keep0 (h : DecT w W g x vt vm ve ms) (k : Keep [] W W') : DecT w W' g x vt vm ve ms :=
  ⟨h.img.keep0 k, h.res.keep0 k, h.own.keep0 k, h.keep.then k⟩
theorem DecT.box {b : Nat} {t : TypeId} {cs : Array Value} (h : DecT w W g x vt vm ve ms) (hb : Blk W b t cs) (ht : t ∉ imgUs) (hg : b ≠ g) (hw : w.heap.size < b) (k : Keep [b] W W') : DecT w W' g x vt vm ve ms :=
  ⟨h.img.keep k (by simpa using fun e => hg e.symm), h.res.keep k (by simp; omega), h.own.keep k (fun y hy cs' t' fr hh => by
    simp only [List.mem_cons, List.not_mem_nil, or_false] at hy
    subst hy
    rw [show W.heap[y]? = _ from hb] at hh
    cases hh
    exact ht), h.keep.trans k (fun y hy hlt => by simp at hy; omega)⟩
theorem DecT.boxN {b : Nat} (h : DecT w W g x vt vm ve ms) (hb : W.heap.size ≤ b) (k : Keep [b] W W') : DecT w W' g x vt vm ve ms := by
  have k0 : Keep [] W W' := (Keep.refl [] W).trans k (fun y hy hlt => by simp at hy; omega)
  exact h.keep0 k0
theorem DecT.store {cs : Array Value} {y : Img} (hi : Blk W g 26 cs) (hs : Blk W w.heap.size 26 #[.int .i64 0, .slice none 0 0, .slice none 0 0, .slice none 0 0]) (ho : OwnImg W w.heap.size y vt vm ve ms) (hk : Keep [] w W) (i : Nat) (v' : Value) (e : cs.setIfInBounds i v' = #[.int .i64 y.res, vt, vm, ve]) (hgz : w.heap.size < g) :
    DecT w (W.setCell ⟨g, i, none⟩ v') g y vt vm ve ms := by
  have ks := keep_set W g i v'
  refine ⟨by rw [← e]; exact hi.set_ i v', hs.keep ks (by simp; omega), ho.keep ks (fun y hy cs t fr hh => ?_), hk.trans ks (fun y hy hlt => by simp at hy; omega)⟩
  simp only [List.mem_cons, List.not_mem_nil, or_false] at hy
  subst hy
  rw [show W.heap[y]? = _ from hi] at hh
  cases hh
  decide
theorem DecT.app {e size n : Nat} {v : Value} {xs : List Value} (h : DecT w W g x vt vm ve ms) (hrow : W.ownsRow w.heap.size e size v n xs) (he' : e ≠ 26) (k : Keep v.ownBlock.toList W W') :
    Blk W' g 26 #[.int .i64 x.res, vt, vm, ve] ∧ Blk W' w.heap.size 26 #[.int .i64 0, .slice none 0 0, .slice none 0 0, .slice none 0 0] ∧ Keep [] w W' :=
  ⟨h.img.keep k (fun hm => unown_ne hrow h.img he' (by simpa using hm)), h.res.keep k (fun hm => unown_ne hrow h.res he' (by simpa using hm)), h.keep.trans k (fun y hy hlt => by have := row_base hrow y hy; omega)⟩
end

set_option maxRecDepth 100000 in
set_option maxHeartbeats 4000000 in
theorem rdecode_any (A : Option Addr) (c : Nat) (l : List Int) (w : World) (h : WordsAt w A l) :
    Calls Tryd.prog 13 #[.slice A l.length c] w fun e w' => ∃ v,
      e = .returned (.tuple #[.agg (imgCells v (docR l).1).toArray, .int .i64 (docR l).2]) ∧ ImgAt w' v (docR l).1 ∧ Keep [] w w' := by
  have HN := fun W (j : Nat) (k : Keep [] w W) => Lib.hid (at_any11 A c l j W (h.keep0 k))
  have hl := h.lt
  have i2 := atD_in hl 2
  have i3 := atD_in hl 3
  have i4 := atD_in hl 4
  obtain ⟨r1, hr1⟩ : ∃ a, atD l 1 = a := ⟨_, rfl⟩
  obtain ⟨n2, hn2⟩ : ∃ u : Nat, atD l 2 = (u : Int) := ⟨(atD l 2).toNat, by omega⟩
  obtain ⟨n3, hn3⟩ : ∃ u : Nat, atD l 3 = (u : Int) := ⟨(atD l 3).toNat, by omega⟩
  obtain ⟨n4, hn4⟩ : ∃ u : Nat, atD l 4 = (u : Int) := ⟨(atD l 4).toNat, by omega⟩
  obtain ⟨N2, hN2⟩ : ∃ k, min n2 17 = k := ⟨_, rfl⟩
  obtain ⟨N3, hN3⟩ : ∃ k, min n3 9 = k := ⟨_, rfl⟩
  obtain ⟨N4, hN4⟩ : ∃ k, min n4 25 = k := ⟨_, rfl⟩
  have HD : Hid (decD l = ⟨r1, (tsD l 5 N2).1, (msD l (tsD l 5 N2).2 N3).1, (esD l ⟨r1, (tsD l 5 N2).1, (msD l (tsD l 5 N2).2 N3).1, []⟩ (msD l (tsD l 5 N2).2 N3).2 N4).1⟩) := by
    show _ = _; unfold decD; simp only [hr1, hn2, hn3, hn4, Int.toNat_natCast, hN2, hN3, hN4]
  have b2 : N2 ≤ 17 := by omega
  have b3 : N3 ≤ 9 := by omega
  have b4 : N4 ≤ 25 := by omega
  rw [hn2] at i2
  rw [hn3] at i3
  rw [hn4] at i4
  have HN1 := fun W (k : Keep [] w W) => HN W 1 k
  have HN2 := fun W (k : Keep [] w W) => HN W 2 k
  have HN3 := fun W (k : Keep [] w W) => HN W 3 k
  have HN4 := fun W (k : Keep [] w W) => HN W 4 k
  rw [hr1] at HN1
  rw [hn2] at HN2
  rw [hn3] at HN3
  rw [hn4] at HN4
  have HWA := fun W (k : Keep [] w W) => Lib.hid (h.keep0 k)
  have HN20 := Lib.hid hN2
  have HN30 := Lib.hid hN3
  have HN40 := Lib.hid hN4
  obtain ⟨W0, hW0⟩ : ∃ W0, w.alloc (.cells #[.int .i64 0, .slice none 0 0, .slice none 0 0, .slice none 0 0] 26) = W0 := ⟨_, rfl⟩
  have K0 : Keep [] w W0 := by rw [← hW0]; exact (Keep.refl _ w).alloc _
  have s0 : Blk W0 w.heap.size 26 #[.int .i64 0, .slice none 0 0, .slice none 0 0, .slice none 0 0] := by rw [← hW0]; exact Blk.new _ _ _
  have HW0 := Lib.hid hW0
  have hn0 := HN1 W0 K0
  have hz0 := s0.lt
  clear hW0 hr1 hn2 hn3 hn4 hN2 hN3 hN4
  have HLL : Hid (l.length ≤ 100000) := h.len
  clear h
  go_enter Tryd.func13, Tryd.ntmps13
  go_wp2_with (rw [HW0.out])
  refine hn0.out.mono ?_
  rintro e w3 ⟨rfl, rfl⟩
  go_wp2_with (refine stop_store 26 (.tmp 4) (.tmp 16) rfl ?_)
  constructor
  refine wpList_store_all rfl 26 (.tmp 4) (.tmp 16) rfl rfl rfl (vs := [.int .i64 r1, .slice none 0 0, .slice none 0 0, .slice none 0 0]) agg_image.2 (Blk.new _ _ _) (by intro u hu; simp at hu; rcases hu with rfl | rfl <;> rfl) rfl ?_
  intro w4 d4 k4
  have ka := (Keep.refl [] W0).alloc (.cells #[.int .i64 0, .slice none 0 0, .slice none 0 0, .slice none 0 0] 26)
  have k34 : Keep [] W0 w4 := ka.trans k4 (fun y hy h => by simp at hy; omega)
  obtain ⟨g, hg⟩ : ∃ g, g = W0.heap.size := ⟨_, rfl⟩
  rw [← hg] at d4 ⊢
  have hgz : w.heap.size < g := by omega
  have D4 : DecT w w4 g ⟨r1, [], [], []⟩ (.slice none 0 0) (.slice none 0 0) (.slice none 0 0) [] := ⟨d4, s0.keep0 k34, OwnImg.nil _ _ _, K0.then k34⟩
  clear hg ka k34 k4 d4 s0 K0 hn0 hz0 HW0
  have HD7 := Lib.hid D4
  clear D4
  go_wp2
  go_loopw [5, 6] (fun vp vi wr => ∃ (k : Nat) (vt : Value), k ≤ N2 ∧ vp = .int .i64 (((tsD l 5 k).2 : Nat) : Int) ∧ vi = .int .i64 (k : Int) ∧ DecT w wr g ⟨r1, (tsD l 5 k).1, [], []⟩ vt (.slice none 0 0) (.slice none 0 0) []) (fun _ vi _ => N2 - (intOf vi).toNat)
  case atStart => exact ⟨0, _, Nat.zero_le _, rfl, rfl, HD7.out⟩
  case round =>
    obtain ⟨k, vt, hk, rfl, rfl, hD⟩ := hrel
    have HDD := Lib.hid hD
    have na := HN2 wr hD.keep
    by_cases hkl : k < N2
    · have hln := (tsD_le l 5 k).1
      have hpp := (tsD_le l 5 k).2
      have hsc : tsD l 5 (k + 1) = ((tsD l 5 k).1 ++ [(taskD l (tsD l 5 k).2).1], (taskD l (tsD l 5 k).2).2) := rfl
      obtain ⟨⟨ts, p⟩, hq⟩ : ∃ p, tsD l 5 k = p := ⟨_, rfl⟩
      rw [hq] at hD HDD hsc hln hpp ⊢
      dsimp only at hD HDD hsc hln hpp ⊢
      have hp6 : p ≤ 1000000 := by omega
      have hlen := (taskD_le l p).1
      have hcl := fun W (hW : DecT w W g ⟨r1, ts, [], []⟩ vt (.slice none 0 0) (.slice none 0 0) []) => Lib.hid (task_any11 A c l p W (HWA W hW.keep).out hp6)
      obtain ⟨⟨y, p'⟩, hra⟩ : ∃ p', taskD l p = p' := ⟨_, rfl⟩
      rw [hra] at hsc hlen hcl
      dsimp only at hsc hlen hcl
      obtain rfl : ts.length = k := hln
      have HSC := Lib.hid hsc
      have hN := HN20.out
      have p0 : ((ts.length : Nat) : Int) < (n2 : Int) := by omega
      have p1 : ((ts.length : Nat) : Int) < 17 := by omega
      have hl25 : ts.length ≤ 25 := by omega
      have HKL : Hid (ts.length + 1 ≤ N2) := by show _ ≤ _; omega
      have hgl := hD.img.lt
      have hwl := hD.res.lt
      clear hsc hD hq hk hkl hpp hN
      go_wp2_with fail
      refine na.out.mono ?_
      rintro e w1 ⟨rfl, rfl⟩
      clear na
      go_wp2_with (refine stop_store 57 (.tmp 7) (.tmp 27) rfl ?_)
      constructor
      refine wpList_store_all rfl 57 (.tmp 7) (.tmp 27) rfl rfl rfl (vs := [.int .i64 0, .int .i64 0, .int .i64 0, .int .i64 0, .int .i64 0, .int .i64 0, .int .i64 0, .int .i64 0, .int .i64 0, .int .i64 0, .int .i64 0]) agg_task.2 (Blk.new _ _ _) (by intro u hu; simp at hu; subst hu; rfl) rfl ?_
      intro w4 d4 k4
      have ka := (Keep.refl [] wr).alloc (.cells ([.int .i64 0, .int .i64 0, .int .i64 0, .int .i64 0, .int .i64 0, .int .i64 0, .int .i64 0, .int .i64 0, .int .i64 0, .int .i64 0, .int .i64 0]).toArray 57)
      have k34 : Keep [] wr w4 := ka.trans k4 (fun y hy h => by simp at hy; omega)
      obtain ⟨b, hb⟩ : ∃ b, b = wr.heap.size := ⟨_, rfl⟩
      rw [← hb] at d4 ⊢
      have hbg : b ≠ g := by omega
      have hbw : w.heap.size < b := by omega
      have D4 := HDD.out.keep0 k34
      have hc4 := hcl w4 D4
      have HB := Lib.hid hb
      have K34 := Lib.hid k34
      have hsz4 := D4.keep.size
      skip
      clear hb ka k34 k4 hcl
      go_wp2_with fail
      refine hc4.out.mono ?_
      rintro e w5 ⟨rfl, k5⟩
      have K5 := Lib.hid (K34.out.then k5)
      have d5 := d4.keep0 k5
      skip
      clear hc4 D4 d4 k5
      go_wp2_with (refine stop_store 57 (.tmp 7) (.tmp 32) rfl ?_)
      constructor
      refine wpList_store_all rfl 57 (.tmp 7) (.tmp 32) rfl rfl rfl (vs := tskCells y) (by rw [(tskCells_len hlen)]; exact agg_task.2) d5 (iv_one _) (by rw [(tskCells_len hlen)]; rfl) ?_
      intro w6 d6 k6
      have D6 := HDD.out.keep0 (K5.out.trans k6 (fun y hy hlt => by simp at hy; have := HB.out; omega))
      skip
      have c6 : w6.cell? ⟨g, 1, none⟩ = some vt := D6.img.cell 1
      have hd6 := d6.cellsAt
      have hr6 : w6.ownsRow w.heap.size 57 11 vt ts.length (ts.flatMap tskCells) := D6.own.tasks
      have hz6 : w.heap.size ≤ w6.heap.size := D6.keep.size
      clear d5 k6
      go_wp2_with (refine stop_load 57 (.tmp 7) rfl ?_)
      constructor
      refine wpList_load_agg rfl 57 (.tmp 7) rfl rfl (cs := tskCells y) (by rw [(tskCells_len hlen)]; exact agg_task) hd6 ?_
      refine wpList_runsD rfl (exec_slice_one slice_task (cs := tskCells y) (tskCells_len hlen) (by decide) rfl _) ?_
      refine wpList_append_one rfl (.tmp 35) (.tmp 37) 22 rfl slice_task hr6 rfl rfl (us := tskCells y) (tskCells_len hlen) (iv_one _) hz6 (by omega) (by unfold maxLen; omega) ?_
      intro v' w7 hown7 k7 hnew
      obtain ⟨q2, q3, q4⟩ := D6.app hr6 (by decide) k7
      have HF := Lib.hid (DecT.store (y := ⟨r1, ts ++ [y], [], []⟩) q2 q3 (D6.own.task y hlen k7 hown7) q4 1 v' rfl hgz)
      have hc7 := q2.cell 1
      have hf7 := q2.frozen 1
      obtain ⟨A', c', rfl⟩ := own_shape hown7
      clear q2 q3 q4 hown7 k7 hnew D6 d6 hd6 hr6 hz6 c6
      go_wp2
      go_roundw
      case rel => exact ⟨ts.length + 1, _, HKL.out, by rw [HSC.out], by go_num, by rw [HSC.out]; exact HF.out⟩
      case measure => have := HKL.out; simp [intOf]; omega
    · obtain rfl : N2 = k := by omega
      go_upto_region 4 with fail
      go_cut [24] from 17 to 23 (fun vc wx => vc = .bool false ∧ wr = wx)
      case first =>
        have hN := HN20.out
        have hcase : (n2 ≤ 17 ∧ N2 = n2) ∨ (17 < n2 ∧ N2 = 17) := by omega
        clear HDD hk hkl hD HD hN
        rcases hcase with ⟨h1, h2⟩ | ⟨h1, h2⟩
        case' inl => have h3 : ¬ (N2 : Int) < (n2 : Int) := by omega
        case' inr => have h3 : (N2 : Int) < (n2 : Int) := by omega
        case' inr => have h4 : ¬ (N2 : Int) < 17 := by omega
        all_goals
          have H2 := Lib.hid h2
          clear h1 h2
          go_wp2_with fail
          refine na.out.mono ?_
          rintro e w1 ⟨rfl, rfl⟩
          go_wp2_with fail
          go_meet
          exact ⟨by first | rfl | (have := H2.out; simp; omega), rfl⟩
      case rest =>
        obtain ⟨rfl, rfl⟩ := hcut
        clear na hkl hk hD
        have hle := tsD_le l 5 N2
        generalize tsD l 5 N2 = TT at *
        obtain ⟨ts, p2⟩ := TT
        dsimp only at HDD hle HD ⊢
        obtain ⟨hl1, hp2⟩ := hle
        have hts : ts.length ≤ 17 := by omega
        clear hl1
        have HD7 := HDD
        clear HDD
        go_wp2
        go_loopw [5, 8] (fun vp vi wr => ∃ (k : Nat) (vm : Value) (ms : List (Mdd × Option Addr × Nat)), k ≤ N3 ∧ vp = .int .i64 (((msD l p2 k).2 : Nat) : Int) ∧ vi = .int .i64 (k : Int) ∧ DecT w wr g ⟨r1, ts, (msD l p2 k).1, []⟩ vt vm (.slice none 0 0) ms) (fun _ vi _ => N3 - (intOf vi).toNat)
        case atStart => exact ⟨0, _, _, Nat.zero_le _, rfl, rfl, HD7.out⟩
        case round =>
          obtain ⟨k, vm, ms, hk, rfl, rfl, hD⟩ := hrel
          have HDD := Lib.hid hD
          have na := HN3 wr hD.keep
          by_cases hkl : k < N3
          · have hln := (msD_le l hl p2 k).1
            have hpp := (msD_le l hl p2 k).2
            have hsc : msD l p2 (k + 1) = ((msD l p2 k).1 ++ [(modeD l (msD l p2 k).2).1], (modeD l (msD l p2 k).2).2) := rfl
            obtain ⟨⟨mds, p⟩, hq⟩ : ∃ p, msD l p2 k = p := ⟨_, rfl⟩
            rw [hq] at hD HDD hsc hln hpp ⊢
            dsimp only at hD HDD hsc hln hpp ⊢
            have hp6 : p ≤ 1000000 := by omega
            have hlen := (modeD_le l hl p).1
            have hcl := fun W (hW : DecT w W g ⟨r1, ts, mds, []⟩ vt vm (.slice none 0 0) ms) => Lib.hid (mode_any11 A c l p W (HWA W hW.keep).out hp6)
            obtain ⟨⟨y, p'⟩, hra⟩ : ∃ p', modeD l p = p' := ⟨_, rfl⟩
            rw [hra] at hsc hlen hcl
            dsimp only at hsc hlen hcl
            obtain rfl : mds.length = k := hln
            have HSC := Lib.hid hsc
            have hN := HN30.out
            have p0 : ((mds.length : Nat) : Int) < (n3 : Int) := by omega
            have p1 : ((mds.length : Nat) : Int) < 9 := by omega
            have hl25 : mds.length ≤ 25 := by omega
            have HKL : Hid (mds.length + 1 ≤ N3) := by show _ ≤ _; omega
            have hgl := hD.img.lt
            have hwl := hD.res.lt
            clear hsc hD hq hk hkl hpp hN
            go_wp2_with fail
            refine na.out.mono ?_
            rintro e w1 ⟨rfl, rfl⟩
            clear na
            go_wp2_with (refine stop_store 47 (.tmp 9) (.tmp 50) rfl ?_)
            constructor
            refine wpList_store_all rfl 47 (.tmp 9) (.tmp 50) rfl rfl rfl (vs := [.int .u32 0, .slice none 0 0]) agg_mode.2 (Blk.new _ _ _) (by intro u hu; simp at hu; rcases hu with rfl | rfl <;> rfl) rfl ?_
            intro w4 d4 k4
            have ka := (Keep.refl [] wr).alloc (.cells ([.int .u32 0, .slice none 0 0]).toArray 47)
            have k34 : Keep [] wr w4 := ka.trans k4 (fun y hy h => by simp at hy; omega)
            obtain ⟨b, hb⟩ : ∃ b, b = wr.heap.size := ⟨_, rfl⟩
            rw [← hb] at d4 ⊢
            have hbg : b ≠ g := by omega
            have hbw : w.heap.size < b := by omega
            have D4 := HDD.out.keep0 k34
            have hc4 := hcl w4 D4
            have HB := Lib.hid hb
            have K34 := Lib.hid k34
            have hsz4 := D4.keep.size
            skip
            clear hb ka k34 k4 hcl
            go_wp2_with fail
            refine hc4.out.mono ?_
            rintro e w5 ⟨Aq, cq, rfl, hoq, k5⟩
            have K5 := Lib.hid (K34.out.then k5)
            have d5 := d4.keep0 k5
            replace hoq := own_base hoq hsz4
            clear hc4 D4 d4 k5
            go_wp2_with (refine stop_store 47 (.tmp 9) (.tmp 55) rfl ?_)
            constructor
            refine wpList_store_all rfl 47 (.tmp 9) (.tmp 55) rfl rfl rfl (vs := mddCells (y, Aq, cq)) (by rw [(show (mddCells (y, Aq, cq)).length = 2 from rfl)]; exact agg_mode.2) d5 (by intro u hu; simp [mddCells] at hu; rcases hu with rfl | rfl <;> rfl) (by rw [(show (mddCells (y, Aq, cq)).length = 2 from rfl)]; rfl) ?_
            intro w6 d6 k6
            have D6 := HDD.out.keep0 (K5.out.trans k6 (fun y hy hlt => by simp at hy; have := HB.out; omega))
            replace hoq := own_keep hoq k6 (fun g1 hg1 hm => by simp at hm; subst hm; exact unown_ne hoq d5 (by decide) hg1)
            have c6 : w6.cell? ⟨g, 2, none⟩ = some vm := D6.img.cell 2
            have hd6 := d6.cellsAt
            have hr6 : w6.ownsRow w.heap.size 47 2 vm mds.length (ms.flatMap mddCells) := D6.own.modes
            have hz6 : w.heap.size ≤ w6.heap.size := D6.keep.size
            clear d5 k6
            go_wp2_with (refine stop_load 47 (.tmp 9) rfl ?_)
            constructor
            refine wpList_load_agg rfl 47 (.tmp 9) rfl rfl (cs := mddCells (y, Aq, cq)) (by rw [(show (mddCells (y, Aq, cq)).length = 2 from rfl)]; exact agg_mode) hd6 ?_
            refine wpList_runsD rfl (exec_slice_one slice_mode (cs := mddCells (y, Aq, cq)) (show (mddCells (y, Aq, cq)).length = 2 from rfl) (by decide) rfl _) ?_
            refine wpList_append_one rfl (.tmp 58) (.tmp 60) 23 rfl slice_mode hr6 rfl rfl (us := mddCells (y, Aq, cq)) (show (mddCells (y, Aq, cq)).length = 2 from rfl) (by intro u hu; simp [mddCells] at hu; rcases hu with rfl | rfl <;> rfl) hz6 (by omega) (by unfold maxLen; omega) ?_
            intro v' w7 hown7 k7 hnew
            obtain ⟨q2, q3, q4⟩ := D6.app hr6 (by decide) k7
            have HF := Lib.hid (DecT.store (y := ⟨r1, ts, mds ++ [y], []⟩) q2 q3 (D6.own.mode y hlen hoq k7 hown7) q4 2 v' rfl hgz)
            have hc7 := q2.cell 2
            have hf7 := q2.frozen 2
            obtain ⟨A', c', rfl⟩ := own_shape hown7
            clear q2 q3 q4 hown7 k7 hnew D6 d6 hd6 hr6 hz6 c6
            go_wp2
            go_roundw
            case rel => exact ⟨mds.length + 1, _, _, HKL.out, by rw [HSC.out], by go_num, by rw [HSC.out]; exact HF.out⟩
            case measure => have := HKL.out; simp [intOf]; omega
          · obtain rfl : N3 = k := by omega
            go_upto_region 10 with fail
            go_cut [47] from 40 to 46 (fun vc wx => vc = .bool false ∧ wr = wx)
            case first =>
              have hN := HN30.out
              have hcase : (n3 ≤ 9 ∧ N3 = n3) ∨ (9 < n3 ∧ N3 = 9) := by omega
              clear HDD hk hkl hD HD hN
              rcases hcase with ⟨h1, h2⟩ | ⟨h1, h2⟩
              case' inl => have h3 : ¬ (N3 : Int) < (n3 : Int) := by omega
              case' inr => have h3 : (N3 : Int) < (n3 : Int) := by omega
              case' inr => have h4 : ¬ (N3 : Int) < 9 := by omega
              all_goals
                have H2 := Lib.hid h2
                clear h1 h2
                go_wp2_with fail
                refine na.out.mono ?_
                rintro e w1 ⟨rfl, rfl⟩
                go_wp2_with fail
                go_meet
                exact ⟨by first | rfl | (have := H2.out; simp; omega), rfl⟩
            case rest =>
              obtain ⟨rfl, rfl⟩ := hcut
              clear na hkl hk hD
              have hle := msD_le l hl p2 N3
              have hok := HDD.out.own.ok
              generalize msD l p2 N3 = TT at *
              obtain ⟨mds, p3⟩ := TT
              dsimp only at HDD hle HD hok ⊢
              obtain ⟨hl1, hp3⟩ := hle
              clear hl1
              have hsh := HDD.out.own
              obtain ⟨ta, tc, rfl⟩ := own_shape hsh.tasks
              obtain ⟨ma, mc, rfl⟩ := own_shape hsh.modes
              clear hsh
              have HD7 := HDD
              clear HDD
              go_wp2
              go_loopw [5, 10] (fun vp vi wr => ∃ (k : Nat) (ve : Value), k ≤ N4 ∧ vp = .int .i64 (((esD l ⟨r1, ts, mds, []⟩ p3 k).2 : Nat) : Int) ∧ vi = .int .i64 (k : Int) ∧ DecT w wr g ⟨r1, ts, mds, (esD l ⟨r1, ts, mds, []⟩ p3 k).1⟩ (.slice ta ts.length tc) (.slice ma mds.length mc) ve ms) (fun _ vi _ => N4 - (intOf vi).toNat)
              case atStart => exact ⟨0, _, Nat.zero_le _, rfl, rfl, HD7.out⟩
              case round =>
                obtain ⟨k, ve, hk, rfl, rfl, hD⟩ := hrel
                have HDD := Lib.hid hD
                have na := HN4 wr hD.keep
                by_cases hkl : k < N4
                · have hln := (esD_le l ⟨r1, ts, mds, []⟩ p3 k).1
                  have hpp := (esD_le l ⟨r1, ts, mds, []⟩ p3 k).2
                  have hsc : esD l ⟨r1, ts, mds, []⟩ p3 (k + 1) = ((esD l ⟨r1, ts, mds, []⟩ p3 k).1 ++ [(edgeD l ⟨r1, ts, mds, (esD l ⟨r1, ts, mds, []⟩ p3 k).1⟩ (esD l ⟨r1, ts, mds, []⟩ p3 k).2).1], (edgeD l ⟨r1, ts, mds, (esD l ⟨r1, ts, mds, []⟩ p3 k).1⟩ (esD l ⟨r1, ts, mds, []⟩ p3 k).2).2) := rfl
                  obtain ⟨⟨es, p⟩, hq⟩ : ∃ p, esD l ⟨r1, ts, mds, []⟩ p3 k = p := ⟨_, rfl⟩
                  rw [hq] at hD HDD hsc hln hpp ⊢
                  dsimp only at hD HDD hsc hln hpp ⊢
                  have hp6 : p ≤ 1000000 := by omega
                  have hlen := (edgeD_le l ⟨r1, ts, mds, es⟩ p).1
                  obtain ⟨ea, ec, rfl⟩ := own_shape hD.own.edges
                  have hcl := fun W (hW : DecT w W g ⟨r1, ts, mds, es⟩ (.slice ta ts.length tc) (.slice ma mds.length mc) (.slice ea es.length ec) ms) => Lib.hid (edge_any11 ⟨ta, tc, ma, mc, ea, ec, ms.map (·.2)⟩ ⟨r1, ts, mds, es⟩ A c l p W (HWA W hW.keep).out (by have := hW.own; rw [hln] at this; exact (this.at_).2.2.2) hp6)
                  obtain ⟨⟨y, p'⟩, hra⟩ : ∃ p', edgeD l ⟨r1, ts, mds, es⟩ p = p' := ⟨_, rfl⟩
                  rw [hra] at hsc hlen hcl
                  dsimp only at hsc hlen hcl
                  obtain rfl : es.length = k := hln
                  have HSC := Lib.hid hsc
                  have hN := HN40.out
                  have p0 : ((es.length : Nat) : Int) < (n4 : Int) := by omega
                  have p1 : ((es.length : Nat) : Int) < 25 := by omega
                  have hl25 : es.length ≤ 25 := by omega
                  have HKL : Hid (es.length + 1 ≤ N4) := by show _ ≤ _; omega
                  have hgl := hD.img.lt
                  have hwl := hD.res.lt
                  clear hsc hD hq hk hkl hpp hN
                  go_wp2_with fail
                  refine na.out.mono ?_
                  rintro e w1 ⟨rfl, rfl⟩
                  clear na
                  go_wp2_with (refine stop_store 70 (.tmp 11) (.tmp 73) rfl ?_)
                  constructor
                  refine wpList_store_all rfl 70 (.tmp 11) (.tmp 73) rfl rfl rfl (vs := [.int .i64 0, .int .i64 0, .int .i64 0, .int .i64 0, .int .i64 0, .int .i64 0, .int .i64 0, .int .i64 0, .int .i64 0, .int .i64 0, .int .i64 0, .int .i64 0, .int .i64 0, .int .i64 0, .int .i64 0, .int .i64 0, .int .i64 0, .int .i64 0, .int .i64 0, .int .i64 0, .int .i64 0, .int .i64 0, .int .i64 0]) agg_edge.2 (Blk.new _ _ _) (by intro u hu; simp at hu; subst hu; rfl) rfl ?_
                  intro w4 d4 k4
                  have ka := (Keep.refl [] wr).alloc (.cells ([.int .i64 0, .int .i64 0, .int .i64 0, .int .i64 0, .int .i64 0, .int .i64 0, .int .i64 0, .int .i64 0, .int .i64 0, .int .i64 0, .int .i64 0, .int .i64 0, .int .i64 0, .int .i64 0, .int .i64 0, .int .i64 0, .int .i64 0, .int .i64 0, .int .i64 0, .int .i64 0, .int .i64 0, .int .i64 0, .int .i64 0]).toArray 70)
                  have k34 : Keep [] wr w4 := ka.trans k4 (fun y hy h => by simp at hy; omega)
                  obtain ⟨b, hb⟩ : ∃ b, b = wr.heap.size := ⟨_, rfl⟩
                  rw [← hb] at d4 ⊢
                  have hbg : b ≠ g := by omega
                  have hbw : w.heap.size < b := by omega
                  have D4 := HDD.out.keep0 k34
                  have hc4 := hcl w4 D4
                  have HB := Lib.hid hb
                  have K34 := Lib.hid k34
                  have hsz4 := D4.keep.size
                  have hi4 := D4.img.cellsAt
                  clear hb ka k34 k4 hcl
                  go_wp2_with (refine wpList_load_agg rfl 26 (.tmp 4) rfl rfl (cs := [.int .i64 r1, .slice ta ts.length tc, .slice ma mds.length mc, .slice ea es.length ec]) agg_image hi4 ?_)
                  refine hc4.out.mono ?_
                  rintro e w5 ⟨rfl, k5⟩
                  have K5 := Lib.hid (K34.out.then k5)
                  have d5 := d4.keep0 k5
                  skip
                  clear hc4 D4 d4 k5
                  go_wp2_with (refine stop_store 70 (.tmp 11) (.tmp 79) rfl ?_)
                  constructor
                  refine wpList_store_all rfl 70 (.tmp 11) (.tmp 79) rfl rfl rfl (vs := edgCells y) (by rw [(edgCells_len hlen.1 hlen.2)]; exact agg_edge.2) d5 (iv_one _) (by rw [(edgCells_len hlen.1 hlen.2)]; rfl) ?_
                  intro w6 d6 k6
                  have D6 := HDD.out.keep0 (K5.out.trans k6 (fun y hy hlt => by simp at hy; have := HB.out; omega))
                  skip
                  have c6 : w6.cell? ⟨g, 3, none⟩ = some (Value.slice ea es.length ec) := D6.img.cell 3
                  have hd6 := d6.cellsAt
                  have hr6 : w6.ownsRow w.heap.size 70 23 (Value.slice ea es.length ec) es.length (es.flatMap edgCells) := D6.own.edges
                  have hz6 : w.heap.size ≤ w6.heap.size := D6.keep.size
                  clear d5 k6
                  go_wp2_with (refine stop_load 70 (.tmp 11) rfl ?_)
                  constructor
                  refine wpList_load_agg rfl 70 (.tmp 11) rfl rfl (cs := edgCells y) (by rw [(edgCells_len hlen.1 hlen.2)]; exact agg_edge) hd6 ?_
                  refine wpList_runsD rfl (exec_slice_one slice_edge (cs := edgCells y) (edgCells_len hlen.1 hlen.2) (by decide) rfl _) ?_
                  refine wpList_append_one rfl (.tmp 82) (.tmp 84) 24 rfl slice_edge hr6 rfl rfl (us := edgCells y) (edgCells_len hlen.1 hlen.2) (iv_one _) hz6 (by omega) (by unfold maxLen; omega) ?_
                  intro v' w7 hown7 k7 hnew
                  obtain ⟨q2, q3, q4⟩ := D6.app hr6 (by decide) k7
                  have HF := Lib.hid (DecT.store (y := ⟨r1, ts, mds, es ++ [y]⟩) q2 q3 (D6.own.edge y hlen k7 hown7) q4 3 v' rfl hgz)
                  have hc7 := q2.cell 3
                  have hf7 := q2.frozen 3
                  obtain ⟨A', c', rfl⟩ := own_shape hown7
                  clear q2 q3 q4 hown7 k7 hnew D6 d6 hd6 hr6 hz6 c6
                  go_wp2
                  go_roundw
                  case rel => exact ⟨es.length + 1, _, HKL.out, by rw [HSC.out], by go_num, by rw [HSC.out]; exact HF.out⟩
                  case measure => have := HKL.out; simp [intOf]; omega
                · obtain rfl : N4 = k := by omega
                  go_upto_region 16 with fail
                  go_cut [70] from 63 to 69 (fun vc wx => vc = .bool false ∧ wr = wx)
                  case first =>
                    have hN := HN40.out
                    have hcase : (n4 ≤ 25 ∧ N4 = n4) ∨ (25 < n4 ∧ N4 = 25) := by omega
                    clear HDD hk hkl hD HD hN
                    rcases hcase with ⟨h1, h2⟩ | ⟨h1, h2⟩
                    case' inl => have h3 : ¬ (N4 : Int) < (n4 : Int) := by omega
                    case' inr => have h3 : (N4 : Int) < (n4 : Int) := by omega
                    case' inr => have h4 : ¬ (N4 : Int) < 25 := by omega
                    all_goals
                      have H2 := Lib.hid h2
                      clear h1 h2
                      go_wp2_with fail
                      refine na.out.mono ?_
                      rintro e w1 ⟨rfl, rfl⟩
                      go_wp2_with fail
                      go_meet
                      exact ⟨by first | rfl | (have := H2.out; simp; omega), rfl⟩
                  case rest =>
                    obtain ⟨rfl, rfl⟩ := hcut
                    clear na hkl hk hD
                    generalize esD l ⟨r1, ts, mds, []⟩ p3 N4 = E at *
                    obtain ⟨es, p4⟩ := E
                    dsimp only at HDD HD ⊢
                    have hsh := HDD.out.own
                    obtain ⟨ea, ec, rfl⟩ := own_shape hsh.edges
                    have hok2 := hsh.ok
                    have himg : ImgAt wr ⟨ta, tc, ma, mc, ea, ec, ms.map (·.2)⟩ ⟨r1, ts, mds, es⟩ := (hsh.at_).2.2.2
                    have HDO : Hid (docD l = if (chkImg ⟨r1, ts, mds, es⟩).2 = 0 then (if wordsI ⟨r1, ts, mds, es⟩ = l then some ⟨r1, ts, mds, es⟩ else none) else none) := by show _ = _; unfold docD; rw [HD.out]
                    have HRR := right10_any _ _ _ himg
                    have hi0 := HDD.out.img.cellsAt
                    clear hsh HD
                    go_wp2_with (refine wpList_load_agg rfl 26 (.tmp 4) rfl rfl (cs := [.int .i64 r1, .slice ta ts.length tc, .slice ma mds.length mc, .slice ea es.length ec]) agg_image hi0 ?_)
                    refine HRR.mono ?_
                    rintro e w5 ⟨rfl, k5⟩
                    have D5 := Lib.hid (HDD.out.keep0 k5)
                    have hi5 := D5.out.img.cellsAt
                    have himg5 := himg.keep0 k5
                    clear HRR hi0 HDD himg k5
                    by_cases h0 : (chkImg ⟨r1, ts, mds, es⟩).2 = 0
                    · have HRI := right_of h0
                      have HEN := rencode_any _ _ w5 himg5 HRI
                      have hmod := HRI.words_mod hok2
                      have hwl := HRI.words_len hok2
                      rw [show ((chkImg ⟨r1, ts, mds, es⟩).2 == 0) = true by simp [h0]]
                      rw [if_pos h0] at HDO
                      clear h0 HRI hok2
                      generalize wordsI ⟨r1, ts, mds, es⟩ = ws at *
                      go_wp2_with (refine wpList_load_agg rfl 26 (.tmp 4) rfl rfl (cs := [.int .i64 r1, .slice ta ts.length tc, .slice ma mds.length mc, .slice ea es.length ec]) agg_image hi5 ?_)
                      refine HEN.mono ?_
                      rintro e w6 ⟨B, d, rfl, o6, k6⟩
                      have D6 := Lib.hid (D5.out.keep0 k6)
                      have R6 : Hid (Reads w6 1 B ws.length (uw ws)) := by have := Reads.of_own o6; rwa [wordV_uw, hmod] at this
                      have RL := Lib.hid (HWA w6 D6.out.keep).out.rd
                      clear HEN hmod o6 k6 hi5 himg5 D5
                      by_cases hl2 : ws.length = l.length
                      · have hln : ((ws.length : Int) != (l.length : Int)) = false := by simp; omega
                        have HL := Lib.hid hl2
                        clear hl2
                        go_wp2
                        clear hln
                        go_loopw [13] (fun vi w7 => ∃ k : Nat, k ≤ ws.length ∧ vi = .int .i64 (k : Int) ∧ ws.take k = l.take k ∧ Keep [] w6 w7) (fun vi _ => ws.length - (intOf vi).toNat)
                        case atStart => exact ⟨0, Nat.zero_le _, rfl, rfl, Keep.refl _ _⟩
                        case round =>
                          generalize wr = w7 at *
                          obtain ⟨k, hk, rfl, ht, hK⟩ := hrel
                          have D7 := Lib.hid (D6.out.keep0 hK)
                          by_cases hlt : k < ws.length
                          · have hl2 := HL.out
                            have hlt2 : k < l.length := by omega
                            obtain ⟨b1, o1, hA1, hb1, hc1⟩ := uw_at (R6.out.keep0 hK) (by omega)
                            obtain ⟨b2, o2, hB1, hb2, hc2⟩ := uw_at (RL.out.keep0 hK) (by omega)
                            have q1 := hc1 k hlt
                            have q2 := hc2 k hlt2
                            have HT1 : Hid (ws.take (k + 1) = ws.take k ++ [ws[k]]) := by show _ = _; rw [List.take_succ_eq_append_getElem hlt]
                            have HT2 : Hid (l.take (k + 1) = l.take k ++ [l[k]]) := by show _ = _; rw [List.take_succ_eq_append_getElem hlt2]
                            have HNE : Hid (ws[k] ≠ l[k] → ws ≠ l) := fun h e => h (by subst e; rfl)
                            have hk0 : (0 : Int) ≤ (k : Int) := by omega
                            have hk1 : (k : Int) < (ws.length : Int) := by omega
                            have hk2 : (k : Int) < (l.length : Int) := by omega
                            have hF : ∀ w', Keep [] w7 w' → w'.cell? ⟨b1, o1 + k, none⟩ = some (.int .u32 ws[k]) ∧ w'.cell? ⟨b2, o2 + k, none⟩ = some (.int .u32 l[k]) := fun w' hk' => ⟨(hk'.cell (p := ⟨b1, o1 + k, none⟩) hb1 (by simp)).trans q1, (hk'.cell (p := ⟨b2, o2 + k, none⟩) hb2 (by simp)).trans q2⟩
                            have HT := Lib.hid ht
                            have HKK := Lib.hid hK
                            rw [hA1, hB1]
                            clear hc1 hc2 q1 q2 hl2 hA1 hB1 ht hK
                            generalize ws[k] = ya at *
                            generalize l[k] = yb at *
                            go_wp2
                            refine wp_region_flow (Keep [] w7) rfl (by kernel_rfl) (Keep.refl _ _).drew ?_
                            repeat (refine fl_val (v := ?_) (by rfl) ?_ ?_; rotate_left; (intro w' hS; obtain ⟨f1,f2⟩ := hF w' hS; go_simp; with_reducible rfl); simp only [Act.put, List.setIfInBounds_toArray, List.set_cons_zero, List.set_cons_succ])
                            refine fl_nil ?_
                            intro w8 hS
                            clear hF
                            by_cases he : ya = yb
                            · have hn : (ya != yb) = false := by simpa using he
                              go_wp2
                              go_roundw
                              case rel => exact ⟨k + 1, by omega, by go_num, by rw [HT1.out, HT2.out, HT.out, he], HKK.out.then hS⟩
                              case measure => simp [intOf] <;> omega
                            · have hn : (ya != yb) = true := by simpa using he
                              have HD2 := HNE.out he
                              have D8 := Lib.hid (D7.out.keep0 hS)
                              clear he
                              have hdr : Hid (docR l = (⟨0, [], [], []⟩, 110)) := by show _ = _; unfold docR; rw [HDO.out, if_neg HD2]
                              have hrs := D8.out.res
                              have hkw := Lib.hid D8.out.keep
                              clear HDO
                              go_wp2_with (refine stop_store 26 (.tmp 2) (.tmp 114) rfl ?_)
                              constructor
                              refine wpList_store_all rfl 26 (.tmp 2) (.tmp 114) rfl rfl rfl (vs := [.int .i64 0, .slice none 0 0, .slice none 0 0, .slice none 0 0]) agg_image.2 hrs (by intro u hu; simp at hu; rcases hu with rfl | rfl <;> rfl) rfl ?_
                              intro w9 d9 k9
                              have hk9 := Lib.hid (hkw.out.trans k9 (fun y hy hlt => by simp at hy; omega))
                              clear hrs k9
                              go_wp2
                              refine bodyPost_ret (results_blk_tmpR rfl _ rfl rfl d9 agg_image) rfl ?_
                              rw [hdr.out]
                              exact ⟨⟨none, 0, none, 0, none, 0, []⟩, rfl, img0_at _, hk9.out⟩
                          · have HEQ : Hid (ws = l) := by
                              show _ = _
                              rw [show k = ws.length by omega, List.take_length, List.take_of_length_le (by have := HL.out; omega)] at ht
                              exact ht
                            have hdr : Hid (docR l = (⟨r1, ts, mds, es⟩, 0)) := by show _ = _; unfold docR; rw [HDO.out, if_pos HEQ.out]
                            have hrs := D7.out.res
                            have hi7 := D7.out.img.cellsAt
                            have hkq : ¬ (k : Int) < (ws.length : Int) := by omega
                            clear ht HDO HEQ hk hlt
                            go_wp2_with (refine stop_load 26 (.tmp 4) rfl ?_)
                            constructor
                            refine wpList_load_agg rfl 26 (.tmp 4) rfl rfl (cs := [.int .i64 r1, .slice ta ts.length tc, .slice ma mds.length mc, .slice ea es.length ec]) agg_image hi7 ?_
                            refine wpList_store_all rfl 26 (.tmp 2) (.tmp 115) rfl rfl rfl (vs := [.int .i64 r1, .slice ta ts.length tc, .slice ma mds.length mc, .slice ea es.length ec]) agg_image.2 hrs (by intro u hu; simp at hu; rcases hu with rfl | rfl | rfl | rfl <;> rfl) rfl ?_
                            intro w9 d9 k9
                            have hk9 := Lib.hid (D7.out.keep.trans k9 (fun y hy hlt => by simp at hy; omega))
                            have how := Lib.hid ((D7.out.own.keep k9 (fun y hy cs t fr hh => by
                              simp only [List.mem_cons, List.not_mem_nil, or_false] at hy
                              subst hy
                              rw [show w7.heap[w.heap.size]? = _ from D7.out.res] at hh
                              cases hh
                              decide)).at_).2.2.2
                            clear hrs k9 hi7
                            go_wp2
                            refine bodyPost_ret (results_blk_tmpR rfl _ rfl rfl d9 agg_image) rfl ?_
                            rw [hdr.out]
                            exact ⟨⟨ta, tc, ma, mc, ea, ec, ms.map (·.2)⟩, rfl, how.out, hk9.out⟩
                      · have hln : ((ws.length : Int) != (l.length : Int)) = true := by simp; omega
                        have HD2 : ws ≠ l := fun e => hl2 (by rw [e])
                        clear hl2
                        have hdr : Hid (docR l = (⟨0, [], [], []⟩, 110)) := by show _ = _; unfold docR; rw [HDO.out, if_neg HD2]
                        have hrs := D6.out.res
                        have hkw := Lib.hid D6.out.keep
                        clear HDO
                        go_wp2_with (refine stop_store 26 (.tmp 2) (.tmp 98) rfl ?_)
                        constructor
                        refine wpList_store_all rfl 26 (.tmp 2) (.tmp 98) rfl rfl rfl (vs := [.int .i64 0, .slice none 0 0, .slice none 0 0, .slice none 0 0]) agg_image.2 hrs (by intro u hu; simp at hu; rcases hu with rfl | rfl <;> rfl) rfl ?_
                        intro w9 d9 k9
                        have hk9 := Lib.hid (hkw.out.trans k9 (fun y hy hlt => by simp at hy; omega))
                        clear hrs k9
                        go_wp2
                        refine bodyPost_ret (results_blk_tmpR rfl _ rfl rfl d9 agg_image) rfl ?_
                        rw [hdr.out]
                        exact ⟨⟨none, 0, none, 0, none, 0, []⟩, rfl, img0_at _, hk9.out⟩
                    · rw [show ((chkImg ⟨r1, ts, mds, es⟩).2 == 0) = false by simp [h0]]
                      rw [if_neg h0] at HDO
                      clear h0 himg5
                      have hdr : Hid (docR l = (⟨0, [], [], []⟩, 110)) := by show _ = _; unfold docR; rw [HDO.out]
                      have hrs := D5.out.res
                      have hkw := Lib.hid D5.out.keep
                      clear HDO
                      go_wp2_with (refine stop_store 26 (.tmp 2) (.tmp 90) rfl ?_)
                      constructor
                      refine wpList_store_all rfl 26 (.tmp 2) (.tmp 90) rfl rfl rfl (vs := [.int .i64 0, .slice none 0 0, .slice none 0 0, .slice none 0 0]) agg_image.2 hrs (by intro u hu; simp at hu; rcases hu with rfl | rfl <;> rfl) rfl ?_
                      intro w9 d9 k9
                      have hk9 := Lib.hid (hkw.out.trans k9 (fun y hy hlt => by simp at hy; omega))
                      clear hrs k9
                      go_wp2
                      refine bodyPost_ret (results_blk_tmpR rfl _ rfl rfl d9 agg_image) rfl ?_
                      rw [hdr.out]
                      exact ⟨⟨none, 0, none, 0, none, 0, []⟩, rfl, img0_at _, hk9.out⟩
end Go.Proofs.YtfgjcjpemlgnmaaDoor
