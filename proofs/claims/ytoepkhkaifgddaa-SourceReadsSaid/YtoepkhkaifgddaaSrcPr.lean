/- A line of an image's text, walked. Condition: as the reader's; there is a piece. The image of a text: the program's Parse, walked. Condition: the text is no longer than a million bytes. The chapter's example of the sources' laws: the answer is yes; walked. No condition. -/
import Derived.Test.YtoepkhkaifgddaaSrcEd
namespace Go.Proofs.Ytoepkhkaifgddaa
open Go.RowKit

/-- No row is longer than n. -/
structure ImgLe (x : Img) (n : Nat) : Prop where
  tasks : x.tasks.length ≤ n
  modes : x.modes.length ≤ n
  edges : x.edges.length ≤ n
  ques : ∀ m ∈ x.modes, m.qs.length ≤ n
theorem ImgLe.mono {x : Img} {n m : Nat} (h : ImgLe x n) (k : n ≤ m) : ImgLe x m := ⟨Nat.le_trans h.tasks k, Nat.le_trans h.modes k, Nat.le_trans h.edges k, fun a ha => Nat.le_trans (h.ques a ha) k⟩
theorem lineP_le {x y : Img} {n : Nat} {ps : List ByteArray} {f : Bool} (hx : ImgLe x n) (h : lineP x ps f = some y) : ImgLe y (n + 1) := by
  have h1 := hx.mono (Nat.le_succ n)
  unfold lineP at h
  simp only at h
  split at h
  · cases h
  · split at h
    · obtain ⟨k, _, rfl⟩ := Option.map_eq_some_iff.1 h
      exact ⟨h1.tasks, h1.modes, h1.edges, h1.ques⟩
    · split at h
      · obtain ⟨t, ht, rfl⟩ := Option.map_eq_some_iff.1 h
        exact ⟨by simpa using hx.tasks, h1.modes, h1.edges, h1.ques⟩
      · split at h
        · obtain ⟨s, hs, rfl⟩ := Option.map_eq_some_iff.1 h
          refine ⟨h1.tasks, by simpa using hx.modes, h1.edges, fun a ha => ?_⟩
          rcases List.mem_append.1 ha with ha | ha
          · exact h1.ques a ha
          · simp at ha; subst ha; exact Nat.zero_le _
        · split at h
          · split at h
            · cases h
            · rename_i hne
              obtain ⟨q, _, rfl⟩ := Option.map_eq_some_iff.1 h
              obtain ⟨l, m, hl⟩ : ∃ l m, x.modes = l ++ [m] := ⟨_, _, (List.dropLast_concat_getLast hne).symm⟩
              have e : addQ x.modes q = l ++ [⟨m.set, m.qs ++ [q]⟩] := by rw [hl, addQ_eq]
              have e2 : (addQ x.modes q).length = x.modes.length := by rw [e, hl]; simp
              refine ⟨h1.tasks, by dsimp only; rw [e2]; exact h1.modes, h1.edges, fun a ha => ?_⟩
              simp only at ha
              rw [e] at ha
              rcases List.mem_append.1 ha with ha | ha
              · exact h1.ques a (by rw [hl]; simp [ha])
              · simp at ha
                subst ha
                have := hx.ques m (by rw [hl]; simp)
                simpa using this
          · split at h
            · obtain ⟨e, he, rfl⟩ := Option.map_eq_some_iff.1 h
              exact ⟨h1.tasks, h1.modes, by simpa using hx.edges, h1.ques⟩
            · cases h

set_option maxRecDepth 100000 in
set_option maxHeartbeats 2000000 in
theorem line_any12 (b R : Nat) (x : Img) (vp : Value) (ps : List ByteArray) (first : Bool) (w : World) (h : RdrIs w b R x vp ps) (hl : ps.length ≤ 1000001) (hz : ∀ p ∈ ps, p.size ≤ 1000000) (hxl : ImgLe x 1000000) (hp1 : 1 ≤ ps.length) :
    Calls Try.prog 33 #[.pointer (some ⟨R, 0, none⟩), .bool first] w (LinePost w b R (lineP x ps first) vp ps) := by
  have hh := h
  obtain ⟨vt, vm, ve, ms, hR⟩ := hh
  obtain ⟨A, cc, rfl⟩ := own_shape hR.pcs
  have h0 : 0 < ps.length := by omega
  obtain ⟨bp, op, hA, hbp, hc⟩ := (Reads.of_own hR.pcs).addr h0
  have hpc : w.cell? ⟨bp, op, none⟩ = some (strOf (bytesOf ps[0])) := by rw [strOf_bytes]; exact hc 0 (.string ps[0]) (by simp [strs, h0])
  have q4 := hR.blk.cell 4
  rw [hA] at q4
  have HH := Lib.hid h
  have HRes := Lib.hid (res_any12 b R x _ ps w h hl hz)
  have HTask := Lib.hid (task_any12 b R x _ ps w h hl hz hxl.tasks)
  have HMode := Lib.hid (mode_any12 b R x _ ps w h hl hz hxl.modes hp1)
  have HQue := Lib.hid (queue_any12 b R x _ ps w h hl hz hxl.modes hxl.ques)
  have HEdge := Lib.hid (edge_any12 b R x _ ps w h hl hz hxl.edges)
  have hLP : Hid (lineP x ps first = if first ≠ decide (bytesOf ps[0] = wRes) then none
    else if bytesOf ps[0] = wRes then (resP ps).map fun n => { x with res := n }
    else if bytesOf ps[0] = wTask then (taskP ps).map fun t => { x with tasks := x.tasks ++ [t] }
    else if bytesOf ps[0] = wMode then (bitsP (ps.drop 1) 0).map fun s => { x with modes := x.modes ++ [⟨s, []⟩] }
    else if bytesOf ps[0] = wQueue then (if x.modes = [] then none else (queueP ps).map fun q => { x with modes := addQ x.modes q })
    else if bytesOf ps[0] = wEdge then (edgeP ps).map fun e => { x with edges := x.edges ++ [e] }
    else none) := by
    show _ = _
    unfold lineP
    rw [show ps.getD 0 { data := #[] } = ps[0] by simp [List.getD, h0]]
  have hegs : ∀ y z (u v : List UInt8) W, (eqGuard BinOp.eql 9 y z (strOf u) (strOf v)).run Try.prog W = .ok () W := fun _ _ _ _ _ => rfl
  have hp0 : (0 : Int) < (ps.length : Int) := by omega
  clear hA hc hR h hxl hz hl
  generalize bytesOf ps[0] = pb at *
  generalize lineP x ps first = res at *
  generalize (resP ps).map (fun n => { x with res := n }) = r1 at *
  generalize (taskP ps).map (fun t => { x with tasks := x.tasks ++ [t] }) = r2 at *
  generalize (bitsP (ps.drop 1) 0).map (fun s => { x with modes := x.modes ++ [(⟨s, []⟩ : Mdd)] }) = r3 at *
  generalize (if x.modes = [] then none else (queueP ps).map (fun q => { x with modes := addQ x.modes q })) = r4 at *
  generalize (edgeP ps).map (fun e => { x with edges := x.edges ++ [e] }) = r5 at *
  have hq1 : ∀ W, (binOp .eql 9 (strOf pb) (.string { data := #[114, 101, 115] })).run Try.prog W = .ok (.bool (decide (pb = wRes))) W := fun W => run_eql_str (P := Try.prog) 9 pb wRes W
  have hq2 : ∀ W, (binOp .eql 9 (strOf pb) (.string { data := #[116, 97, 115, 107] })).run Try.prog W = .ok (.bool (decide (pb = wTask))) W := fun W => run_eql_str (P := Try.prog) 9 pb wTask W
  have hq3 : ∀ W, (binOp .eql 9 (strOf pb) (.string { data := #[109, 111, 100, 101] })).run Try.prog W = .ok (.bool (decide (pb = wMode))) W := fun W => run_eql_str (P := Try.prog) 9 pb wMode W
  have hq4 : ∀ W, (binOp .eql 9 (strOf pb) (.string { data := #[113, 117, 101, 117, 101] })).run Try.prog W = .ok (.bool (decide (pb = wQueue))) W := fun W => run_eql_str (P := Try.prog) 9 pb wQueue W
  have hq5 : ∀ W, (binOp .eql 9 (strOf pb) (.string { data := #[101, 100, 103, 101] })).run Try.prog W = .ok (.bool (decide (pb = wEdge))) W := fun W => run_eql_str (P := Try.prog) 9 pb wEdge W
  have he1 : ∀ y z W, (eqGuard BinOp.eql 9 y z (strOf pb) (.string { data := #[114, 101, 115] })).run Try.prog W = .ok () W := fun _ _ _ => rfl
  have he2 : ∀ y z W, (eqGuard BinOp.eql 9 y z (strOf pb) (.string { data := #[116, 97, 115, 107] })).run Try.prog W = .ok () W := fun _ _ _ => rfl
  have he3 : ∀ y z W, (eqGuard BinOp.eql 9 y z (strOf pb) (.string { data := #[109, 111, 100, 101] })).run Try.prog W = .ok () W := fun _ _ _ => rfl
  have he4 : ∀ y z W, (eqGuard BinOp.eql 9 y z (strOf pb) (.string { data := #[113, 117, 101, 117, 101] })).run Try.prog W = .ok () W := fun _ _ _ => rfl
  have he5 : ∀ y z W, (eqGuard BinOp.eql 9 y z (strOf pb) (.string { data := #[101, 100, 103, 101] })).run Try.prog W = .ok () W := fun _ _ _ => rfl
  by_cases hw1 : pb = wRes
  · have d1 : decide (pb = wRes) = true := decide_eq_true hw1
    rw [d1] at hq1 hLP
    cases first
    · have hT : Hid (res = none) := by show _ = _; rw [hLP.out, if_pos (by decide)]
      clear hLP hw1 d1
      go_enter Try.func33, Try.ntmps33
      go_wp2
      go_ret
      rw [hT.out]
      exact ⟨rfl, Chg.refl _ _ _ _, fun y hy => (by cases hy)⟩
    · have hT : Hid (res = r1) := by show _ = _; rw [hLP.out, if_neg (by decide), if_pos hw1]
      clear hLP hw1 d1
      go_enter Try.func33, Try.ntmps33
      go_wp2_with fail
      refine HRes.out.mono ?_
      rintro e w1 ⟨rfl, h2, h3⟩
      go_wp2
      go_ret
      rw [hT.out]
      exact ⟨rfl, h2, h3⟩
  · have d1 : decide (pb = wRes) = false := decide_eq_false hw1
    rw [d1] at hq1 hLP
    cases first
    · have hcase : pb = wTask ∨ (¬ pb = wTask ∧ pb = wMode) ∨ (¬ pb = wTask ∧ ¬ pb = wMode ∧ pb = wQueue) ∨ (¬ pb = wTask ∧ ¬ pb = wMode ∧ ¬ pb = wQueue ∧ pb = wEdge) ∨ (¬ pb = wTask ∧ ¬ pb = wMode ∧ ¬ pb = wQueue ∧ ¬ pb = wEdge) := by
        by_cases h2 : pb = wTask
        · exact .inl h2
        · by_cases h3 : pb = wMode
          · exact .inr (.inl ⟨h2, h3⟩)
          · by_cases h4 : pb = wQueue
            · exact .inr (.inr (.inl ⟨h2, h3, h4⟩))
            · by_cases h5 : pb = wEdge
              · exact .inr (.inr (.inr (.inl ⟨h2, h3, h4, h5⟩)))
              · exact .inr (.inr (.inr (.inr ⟨h2, h3, h4, h5⟩)))
      rcases hcase with g2 | ⟨g2, g3⟩ | ⟨g2, g3, g4⟩ | ⟨g2, g3, g4, g5⟩ | ⟨g2, g3, g4, g5⟩
      · have hT : Hid (res = r2) := by show _ = _; rw [hLP.out, if_neg (by decide), if_neg hw1, if_pos g2]
        rw [decide_eq_true g2] at hq2
        clear hLP hw1 d1 g2
        go_enter Try.func33, Try.ntmps33
        go_wp2_with fail
        refine HTask.out.mono ?_
        rintro e w1 ⟨rfl, h2, h3⟩
        go_wp2
        go_ret
        rw [hT.out]
        exact ⟨rfl, h2, h3⟩
      · have hT : Hid (res = r3) := by show _ = _; rw [hLP.out, if_neg (by decide), if_neg hw1, if_neg g2, if_pos g3]
        rw [decide_eq_false g2] at hq2
        rw [decide_eq_true g3] at hq3
        clear hLP hw1 d1 g2 g3
        go_enter Try.func33, Try.ntmps33
        go_wp2_with fail
        refine HMode.out.mono ?_
        rintro e w1 ⟨rfl, h2, h3⟩
        go_wp2
        go_ret
        rw [hT.out]
        exact ⟨rfl, h2, h3⟩
      · have hT : Hid (res = r4) := by show _ = _; rw [hLP.out, if_neg (by decide), if_neg hw1, if_neg g2, if_neg g3, if_pos g4]
        rw [decide_eq_false g2] at hq2
        rw [decide_eq_false g3] at hq3
        rw [decide_eq_true g4] at hq4
        clear hLP hw1 d1 g2 g3 g4
        go_enter Try.func33, Try.ntmps33
        go_wp2_with fail
        refine HQue.out.mono ?_
        rintro e w1 ⟨rfl, h2, h3⟩
        go_wp2
        go_ret
        rw [hT.out]
        exact ⟨rfl, h2, h3⟩
      · have hT : Hid (res = r5) := by show _ = _; rw [hLP.out, if_neg (by decide), if_neg hw1, if_neg g2, if_neg g3, if_neg g4, if_pos g5]
        rw [decide_eq_false g2] at hq2
        rw [decide_eq_false g3] at hq3
        rw [decide_eq_false g4] at hq4
        rw [decide_eq_true g5] at hq5
        clear hLP hw1 d1 g2 g3 g4 g5
        go_enter Try.func33, Try.ntmps33
        go_wp2_with fail
        refine HEdge.out.mono ?_
        rintro e w1 ⟨rfl, h2, h3⟩
        go_wp2
        go_ret
        rw [hT.out]
        exact ⟨rfl, h2, h3⟩
      · have hT : Hid (res = none) := by show _ = _; rw [hLP.out, if_neg (by decide), if_neg hw1, if_neg g2, if_neg g3, if_neg g4, if_neg g5]
        rw [decide_eq_false g2] at hq2
        rw [decide_eq_false g3] at hq3
        rw [decide_eq_false g4] at hq4
        rw [decide_eq_false g5] at hq5
        clear hLP hw1 d1 g2 g3 g4 g5
        go_enter Try.func33, Try.ntmps33
        go_wp2
        go_ret
        rw [hT.out]
        exact ⟨rfl, Chg.refl _ _ _ _, fun y hy => (by cases hy)⟩
    · have hT : Hid (res = none) := by show _ = _; rw [hLP.out, if_pos (by decide)]
      clear hLP hw1 d1
      go_enter Try.func33, Try.ntmps33
      go_wp2
      go_ret
      rw [hT.out]
      exact ⟨rfl, Chg.refl _ _ _ _, fun y hy => (by cases hy)⟩
end Go.Proofs.Ytoepkhkaifgddaa

namespace Go.Proofs.Ytoepkhkaifgddaa
open Go.RowKit
attribute [local go_sem] Oper.semAt_some

abbrev zImg : List Value := [.int .i64 0, .slice none 0 0, .slice none 0 0, .slice none 0 0]
/-- The reader between two lines. -/
structure SrV (w W : World) (x : Img) (first : Bool) (vp : Value) (ps : List ByteArray) : Prop where
  rdr : RdrIs W (w.heap.size + 7) (w.heap.size + 3) x vp ps
  ptr : Blk W (w.heap.size + 4) 58 #[.pointer (some ⟨w.heap.size + 3, 0, none⟩)]
  fst : Blk W (w.heap.size + 5) 4 #[.bool first]
  res : Blk W w.heap.size 26 zImg.toArray
  at_ : Blk W (w.heap.size + 1) 3 #[.int .i64 0]
  err : Blk W (w.heap.size + 2) 27 #[.int .i64 0]
  keep : Keep [] w W
  sz : w.heap.size + 7 ≤ W.heap.size
/-- Stopped at a line. -/
structure SrX (w W : World) (pre : List NumStr) (n : Int) : Prop where
  err_ : srFold (img0, true) pre = .error n
  res : Blk W w.heap.size 26 zImg.toArray
  at_ : Blk W (w.heap.size + 1) 3 #[.int .i64 n]
  err : Blk W (w.heap.size + 2) 27 #[.int .i64 120]
  keep : Keep [] w W
def SrInv (w : World) (pre : List NumStr) (W : World) : Prop := ∃ x f vp ps, srFold (img0, true) pre = .ok (x, f) ∧ ImgLe x pre.length ∧ SrV w W x f vp ps
/-- What Parse answers and leaves. -/
def SrcPost (w : World) (r : Img × Int × Int) (e : Ending) (w' : World) : Prop :=
  ∃ vt vm ve ms, e = .returned (.tuple #[.agg #[.int .i64 r.1.res, vt, vm, ve], .int .i64 r.2.1, .int .i64 r.2.2]) ∧ OwnImg w' w.heap.size r.1 vt vm ve ms ∧ Keep [] w w'
theorem srFold_append : ∀ (l m : List NumStr) (st : Img × Bool), srFold st (l ++ m) = (srFold st l).bind (fun a => srFold a m)
  | [], _, _ => rfl
  | x :: l, m, st => by
    rw [List.cons_append, srFold, srFold]
    cases srStep st x with
    | error n => rfl
    | ok a => exact srFold_append l m a
theorem srFold_snoc (l : List NumStr) (x : NumStr) (st : Img × Bool) : srFold st (l ++ [x]) = (srFold st l).bind (fun a => srStep a x) := by
  rw [srFold_append]
  congr 1
  funext a
  show (srStep a x).bind _ = _
  cases srStep a x <;> rfl
theorem srFold_prefix {l m : List NumStr} {st : Img × Bool} {n : Int} (h : l <+: m) (hl : srFold st l = .error n) : srFold st m = .error n := by
  obtain ⟨r, rfl⟩ := h
  rw [srFold_append, hl]; rfl
theorem SrV.keepF {w X Y : World} {x : Img} {f : Bool} {vp : Value} {ps : List ByteArray} {F : List Nat} (h : SrV w X x f vp ps) (k : Keep F X Y) (hF : ∀ g ∈ F, g = w.heap.size + 6 ∨ (w.heap.size ≤ g ∧ ∃ o : Obj, X.heap[g]? = some o ∧ o.isCells = false)) : SrV w Y x f vp ps := by
  have hne : ∀ g t cs, Blk X g t cs → g ≠ w.heap.size + 6 → Blk Y g t cs := fun g t cs hb hgn => hb.keep k (fun hm => by
    rcases hF g hm with h1 | ⟨_, o, ho, hc⟩
    · exact hgn h1
    · rw [show X.heap[g]? = _ from hb] at ho; cases ho; cases hc)
  have own : ∀ {e size n : Nat} {v : Value} {xs : List Value}, X.ownsRow (w.heap.size + 7) e size v n xs → Y.ownsRow (w.heap.size + 7) e size v n xs := fun hrow => own_keep hrow k (fun g hg hm => by
    obtain ⟨cs, fr, hh⟩ := row_typed hrow g (by simp [hg])
    have hb := row_base hrow g (by simp [hg])
    rcases hF g hm with h1 | ⟨_, o, ho, hc⟩
    · omega
    · rw [hh] at ho; cases ho; cases hc)
  obtain ⟨vt, vm, ve, ms, hr⟩ := h.rdr
  exact ⟨⟨vt, vm, ve, ms, hne _ _ _ hr.blk (by omega), ⟨hr.own.ok, hr.own.eqm, own hr.own.tasks, own hr.own.modes, own hr.own.edges, fun m hm => own (hr.own.ques m hm), hr.own.apart⟩, own hr.pcs, Nat.le_trans hr.le k.size⟩,
    hne _ _ _ h.ptr (by omega), hne _ _ _ h.fst (by omega), hne _ _ _ h.res (by omega), hne _ _ _ h.at_ (by omega), hne _ _ _ h.err (by omega),
    h.keep.trans k (fun g hg hlt => by
      rcases hF g hg with h1 | ⟨h1, _⟩
      · omega
      · omega), Nat.le_trans h.sz k.size⟩
theorem SrV.keep0 {w X Y : World} {x : Img} {f : Bool} {vp : Value} {ps : List ByteArray} (h : SrV w X x f vp ps) (k : Keep [] X Y) : SrV w Y x f vp ps := h.keepF k (by simp)

/-- The reader's pieces are others now. -/
theorem SrV.setP {w W W' : World} {x : Img} {f : Bool} {vp vq : Value} {ps qs : List ByteArray} (h : SrV w W x f vp ps) (k : Keep vp.ownBlock.toList W W') (hq : W'.ownsRow (w.heap.size + 7) 9 1 vq qs.length (strs qs)) : SrV w (W'.setCell ⟨w.heap.size + 3, 4, none⟩ vq) x f vq qs := by
  obtain ⟨vt, vm, ve, ms, hr⟩ := h.rdr
  have ht : ∀ g t cs, Blk W g t cs → t ≠ 9 → Blk W' g t cs := fun g t cs hb hne => hb.keep k (fun hm => unown_ne hr.pcs hb (Ne.symm hne) (by simpa using hm))
  have hb3 := ht _ _ _ hr.blk (by decide)
  have own : ∀ {e size n : Nat} {v : Value} {xs : List Value}, W.ownsRow (w.heap.size + 7) e size v n xs → e ≠ 9 → W'.ownsRow (w.heap.size + 7) e size v n xs := fun ho he => own_keep ho k (row_apart hr.pcs ho (Ne.symm he))
  have ho : OwnImg W' (w.heap.size + 7) x vt vm ve ms := ⟨hr.own.ok, hr.own.eqm, own hr.own.tasks (by decide), own hr.own.modes (by decide), own hr.own.edges (by decide), fun m hm => own (hr.own.ques m hm) (by decide), hr.own.apart⟩
  have ks := keep_set W' (w.heap.size + 3) 4 vq
  have hv : ∀ {vp' : Value} {n : Nat} {xs : List Value}, W'.ownsRow (w.heap.size + 7) 9 1 vp' n xs → True := fun _ => trivial
  have hset := RdrV.store (vp := vq) (ps := qs) (y := x) hb3 ho hq (Nat.le_trans hr.le k.size) 4 vq rfl
  refine ⟨⟨vt, vm, ve, ms, hset⟩, (ht _ _ _ h.ptr (by decide)).keep ks (by simp), (ht _ _ _ h.fst (by decide)).keep ks (by simp), (ht _ _ _ h.res (by decide)).keep ks (by simp), (ht _ _ _ h.at_ (by decide)).keep ks (by simp), (ht _ _ _ h.err (by decide)).keep ks (by simp), (h.keep.trans k (fun g hg hlt => ?_)).trans ks (fun g hg hlt => ?_), Nat.le_trans h.sz (Nat.le_trans k.size ks.size)⟩
  · have := row_base hr.pcs g hg
    omega
  · simp at hg
    omega
/-- The call's three results. -/
theorem src_results {W : World} {H : Nat} {tmps : Array Value} {cs : List Value} {a b : Int} (h0 : Blk W H 26 cs.toArray) (hl : cs.length = 4) (h1 : Blk W (H + 1) 3 #[.int .i64 a]) (h2 : Blk W (H + 2) 27 #[.int .i64 b])
    (t2 : tmps.getD 2 undef = .pointer (some ⟨H, 0, none⟩)) (t3 : tmps.getD 3 undef = .pointer (some ⟨H + 1, 0, none⟩)) (t4 : tmps.getD 4 undef = .pointer (some ⟨H + 2, 0, none⟩)) :
    (results Try.f10 tmps).run Try.prog W = .ok (.tuple #[.agg cs.toArray, .int .i64 a, .int .i64 b]) W := by
  have t2' : tmps[2]?.getD undef = .pointer (some ⟨H, 0, none⟩) := by simpa using t2
  have t3' : tmps[3]?.getD undef = .pointer (some ⟨H + 1, 0, none⟩) := by simpa using t3
  have t4' : tmps[4]?.getD undef = .pointer (some ⟨H + 2, 0, none⟩) := by simpa using t4
  match cs, hl with
  | [v0, v1, v2, v3], _ =>
    have e0 : W.cell? ⟨H, 0, none⟩ = some v0 := h0.cell 0
    have e1 : W.cell? ⟨H, 1, none⟩ = some v1 := h0.cell 1
    have e2 : W.cell? ⟨H, 2, none⟩ = some v2 := h0.cell 2
    have e3 : W.cell? ⟨H, 3, none⟩ = some v3 := h0.cell 3
    have c1 := h1.cell 0
    have c2 := h2.cell 0
    simp at c1 c2
    simp [results, Try.results10, t2', t3', t4', asAddr, go_sem, e0, e1, e2, e3, c1, c2]
/-- A line has been read. -/
theorem SrV.chg {w W W' : World} {x y : Img} {f : Bool} {vp : Value} {ps : List ByteArray} (h : SrV w W x f vp ps) (c : Chg (w.heap.size + 7) (w.heap.size + 3) imgUs W W') (hr : RdrIs W' (w.heap.size + 7) (w.heap.size + 3) y vp ps) : SrV w W' y f vp ps :=
  ⟨hr, c.blk h.ptr (by omega) (by decide), c.blk h.fst (by omega) (by decide), c.blk h.res (by omega) (by decide), c.blk h.at_ (by omega) (by decide), c.blk h.err (by omega) (by decide),
    ⟨c.os.trans h.keep.os, c.tape.trans h.keep.tape, c.output.trans h.keep.output, Nat.le_trans h.keep.size c.size, fun k hk _ => (c.same k (Nat.lt_of_lt_of_le hk h.keep.size) (by omega) (.inl (by omega))).trans (h.keep.block k hk (by simp))⟩, Nat.le_trans h.sz c.size⟩
/-- What a round keeps. -/
structure Rk (H : Nat) (W W' : World) : Prop where
  kf : KeepsFrom (H + 7) W W'
  sm : Same [H + 6] W W'
section
variable {H : Nat} {A B C : World}
theorem Rk.trans (h : Rk H A B) (k : Rk H B C) : Rk H A C := ⟨h.kf.trans k.kf, h.sm.trans k.sm⟩
theorem Rk.of_keep {F : List Nat} (k : Keep F A B) (hz : H + 7 ≤ A.heap.size) (hF : ∀ g ∈ F, g ≠ H + 6 ∧ ∃ cs t fr, A.heap[g]? = some (.cells cs t fr)) : Rk H A B :=
  ⟨k.from (fun g hg => .inr (hF g hg).2), Same.keep k (fun x hx => by
    simp at hx
    subst hx
    exact ⟨by omega, fun hm => (hF _ hm).1 rfl⟩)⟩
theorem Rk.keep0 (k : Keep [] A B) (hz : H + 7 ≤ A.heap.size) : Rk H A B := Rk.of_keep k hz (by simp)
theorem Rk.chg (c : Chg (H + 7) (H + 3) imgUs A B) (hz : H + 7 ≤ A.heap.size) (hb : ∃ t cs, Blk A (H + 3) t cs) : Rk H A B := by
  obtain ⟨t, cs, hb⟩ := hb
  refine ⟨⟨c.size, fun k o hk ho hc => (c.same k (Array.getElem?_eq_some_iff.1 ho).1 (by omega) (.inr fun cs' t' fr e => by rw [ho] at e; cases e; cases hc)).trans ho⟩, fun k hk => ?_⟩
  simp at hk
  subst hk
  exact c.same _ (by omega) (by omega) (.inl (by omega))
end
section
variable {F : Fence} {n : Nat} {P : Program} {Q : Exit → Act → World → Prop} {a : Act} {w : World}
/-- A region that draws its order, in a walk within a fence: S need not hold behind the operation p. -/
theorem bj_end {md : Region.Mode} {ops : Array Oper} {p : Nat} {S : World → Prop} {listed : Array Bool} (hr : Region.ready md ops listed = []) (h : Q .normal a w) (fuel : Nat) : wpAnyP P md ops (noOut (noPanic Q)) p S fuel listed a w := ap_done hr (by simpa [noOut, noPanic] using h) fuel
theorem bj_start {id : Nat} {l : List Oper} (p : Nat) (S : World → Prop) (hF : Open F) (hm : P.follows .mixedOrders = true) (hd : noDefer l = true) (hS : S w.drew)
    (h : S w.drew → PanOk (noOut (noPanic Q)) → wpAnyP P .any l.toArray (noOut (noPanic Q)) p S l.toArray.size (Array.replicate l.toArray.size false) a w.drew) : (Code.region id l.toArray true).wpIn F n P Q a w :=
  wpIn_mono (ap_start p S hF hm hd hS h (fun _ _ d _ _ h => by cases d <;> exact h)) noPanic_le
end

theorem own_zero {w : World} {base : Nat} {e : TypeId} {size n c : Nat} {A : Option Addr} {xs : List Value} (h : w.ownsRow base e size (.slice A n c) n xs) : w.ownsRow base e size (.slice A 0 c) 0 [] := by
  refine ⟨by simp, ?_⟩
  rcases h.2 with ⟨e, _⟩ | ⟨g, cap, cur, e, h1, h2, h3, h4, h5, _⟩
  · cases e; exact .inl ⟨rfl, rfl⟩
  · cases e; exact .inr ⟨g, c, cur, rfl, h1, h2, Nat.zero_le _, h4, h5, by simp⟩

theorem piece_size12 {s p : ByteArray} (h : p ∈ piecesOf s) : p.size ≤ s.size := by
  have key : ∀ i, ∀ p ∈ (scan s i).1, p.size ≤ s.size := by
    intro i
    induction i with
    | zero => intro p hp; cases hp
    | succ i ih =>
      intro p hp
      cases hb : isBlank s i <;> cases hf : (scan s i).2
      · rw [scan_char_none hb hf] at hp; exact ih p hp
      · rw [scan_char_some hb hf] at hp; exact ih p hp
      · rw [scan_blank_none hb hf] at hp; exact ih p hp
      · rw [scan_blank_some hb hf] at hp
        rcases List.mem_append.1 hp with hp | hp
        · exact ih p hp
        · simp at hp
          subst hp
          rw [ByteArray.size_extract]
          omega
  exact key _ p h

set_option maxRecDepth 100000 in
set_option maxHeartbeats 16000000 in
theorem sparse_any12 (s : ByteArray) (w : World) (hs : s.size ≤ 1000000) :
    Calls Try.prog 10 #[.string s] w (SrcPost w (srcP s)) := by
  rw [← callsIn_wide (n := 9)]
  refine callsIn_of_wp_marks Try.func10 rfl trivial ?_ rfl
  simp only [Try.ntmps10, List.size_toArray, List.length_cons, List.length_nil, Nat.reduceAdd, Nat.reduceSub, Array.replicate_succ, Array.replicate_zero, List.push_toArray, List.append_toArray, List.nil_append, List.cons_append]
  by_cases hbig : 65536 < s.size
  · have hb1 : decide ((65536 : Int) < (s.size : Int)) = true := decide_eq_true (by omega)
    have hP : Hid (srcP s = (img0, 0, 120)) := if_pos hbig
    gi_wp2_with (first
      | (refine wpIn_scope_wide ?_)
      | (refine wpIn_label ?_)
      | (refine stopIn_store 26 (.tmp 2) (.tmp 14) rfl ?_))
    constructor
    simp only [Nat.add_assoc, Nat.reduceAdd]
    obtain ⟨w1, hw1⟩ : ∃ w1, w.alloc (.cells #[.int .i64 0, .slice none 0 0, .slice none 0 0, .slice none 0 0] 26) = w1 := ⟨_, rfl⟩
    obtain ⟨w2, hw2⟩ : ∃ w2, w1.alloc (.cells #[.int .i64 0] 3) = w2 := ⟨_, rfl⟩
    obtain ⟨w3, hw3⟩ : ∃ w3, w2.alloc (.cells #[.int .i64 0] 27) = w3 := ⟨_, rfl⟩
    have z1 : w1.heap.size = w.heap.size + 1 := by rw [← hw1]; simp
    have z2 : w2.heap.size = w.heap.size + 2 := by rw [← hw2]; simp [z1]
    have k1 : Keep [] w w1 := by rw [← hw1]; exact (Keep.refl _ _).alloc _
    have k2 : Keep [] w1 w2 := by rw [← hw2]; exact (Keep.refl _ _).alloc _
    have k3 : Keep [] w2 w3 := by rw [← hw3]; exact (Keep.refl _ _).alloc _
    have b0 : Blk w3 w.heap.size 26 zImg.toArray := (((by rw [← hw1]; exact Blk.new _ _ _ : Blk w1 w.heap.size 26 zImg.toArray).keep0 k2).keep0 k3)
    have b1 : Blk w3 (w.heap.size + 1) 3 #[.int .i64 0] := ((by rw [← hw2, ← z1]; exact Blk.new _ _ _ : Blk w2 (w.heap.size + 1) 3 #[.int .i64 0]).keep0 k3)
    have b2 : Blk w3 (w.heap.size + 2) 27 #[.int .i64 0] := by rw [← hw3, ← z2]; exact Blk.new _ _ _
    have K0 : Keep [] w w3 := (k1.then k2).then k3
    rw [hw1, hw2, hw3]
    clear hw1 hw2 hw3 z1 z2 k1 k2 k3
    refine wpListIn_store_all rfl 26 (.tmp 2) (.tmp 14) rfl rfl rfl (vs := zImg) agg_image.2 b0 (by intro u hu; simp at hu; rcases hu with rfl | rfl <;> rfl) rfl ?_
    intro w4 d4 k4
    have hat4 := b1.keep k4 (by simp)
    have her4 := b2.keep k4 (by simp)
    have c1 := hat4.cell 0
    have f1 := hat4.frozen 0
    have c2 := her4.cell 0
    have f2 := her4.frozen 0
    simp at c1 c2
    gi_wp2
    have k1 := keep_set w4 (w.heap.size + 1) 0 (.int .i64 0)
    have k2 := keep_set (w4.setCell ⟨w.heap.size + 1, 0, none⟩ (.int .i64 0)) (w.heap.size + 2) 0 (.int .i64 120)
    have kk : Keep [w.heap.size, w.heap.size + 1, w.heap.size + 2] w3 ((w4.setCell ⟨w.heap.size + 1, 0, none⟩ (.int .i64 0)).setCell ⟨w.heap.size + 2, 0, none⟩ (.int .i64 120)) := ((k4.mono (by simp)).trans (k1.mono (G := [w.heap.size, w.heap.size + 1, w.heap.size + 2]) (by simp)) (fun y hy _ => hy)).trans k2 (by simp)
    refine ⟨.tuple #[.agg zImg.toArray, .int .i64 0, .int .i64 120], src_results ((d4.keep k1 (by simp)).keep k2 (by simp)) rfl ((hat4.set_ 0 (.int .i64 0)).keep k2 (by simp)) ((her4.keep k1 (by simp)).set_ 0 (.int .i64 120)) rfl rfl rfl, ?_⟩
    rw [hP.out]
    exact ⟨_, _, _, [], rfl, OwnImg.nil _ _ 0, K0.trans kk (fun y hy hlt => by simp at hy; omega)⟩
  · have hb1 : decide ((65536 : Int) < (s.size : Int)) = false := decide_eq_false (by omega)
    gi_wp2_with (first
      | (refine ⟨trivial, ?_⟩; gi_at_call 31; refine (callsIn_wide.2 (lines_any s _)).mono ?_; rintro e w' ⟨rfl, rfl⟩)
      | (refine wpIn_scope_wide ?_)
      | (refine wpIn_label ?_))
    simp only [Nat.add_assoc, Nat.reduceAdd]
    obtain ⟨w1, hw1⟩ : ∃ w1, w.alloc (.cells #[.int .i64 0, .slice none 0 0, .slice none 0 0, .slice none 0 0] 26) = w1 := ⟨_, rfl⟩
    obtain ⟨w2, hw2⟩ : ∃ w2, w1.alloc (.cells #[.int .i64 0] 3) = w2 := ⟨_, rfl⟩
    obtain ⟨w3, hw3⟩ : ∃ w3, w2.alloc (.cells #[.int .i64 0] 27) = w3 := ⟨_, rfl⟩
    obtain ⟨w4, hw4⟩ : ∃ w4, w3.alloc (.cells #[.int .i64 0, .slice none 0 0, .slice none 0 0, .slice none 0 0, .slice none 0 0] 61) = w4 := ⟨_, rfl⟩
    obtain ⟨w5, hw5⟩ : ∃ w5, w4.alloc (.cells #[.pointer (some ⟨w.heap.size + 3, 0, none⟩)] 58) = w5 := ⟨_, rfl⟩
    obtain ⟨w6, hw6⟩ : ∃ w6, w5.alloc (.cells #[.bool true] 4) = w6 := ⟨_, rfl⟩
    obtain ⟨W0, hW0⟩ : ∃ W0, w6.alloc (.cells #[.string s] 9) = W0 := ⟨_, rfl⟩
    have z1 : w1.heap.size = w.heap.size + 1 := by rw [← hw1]; simp
    have z2 : w2.heap.size = w.heap.size + 2 := by rw [← hw2]; simp [z1]
    have z3 : w3.heap.size = w.heap.size + 3 := by rw [← hw3]; simp [z2]
    have z4 : w4.heap.size = w.heap.size + 4 := by rw [← hw4]; simp [z3]
    have z5 : w5.heap.size = w.heap.size + 5 := by rw [← hw5]; simp [z4]
    have z6 : w6.heap.size = w.heap.size + 6 := by rw [← hw6]; simp [z5]
    have hsz : W0.heap.size = w.heap.size + 7 := by rw [← hW0]; simp [z6]
    have k1 : Keep [] w w1 := by rw [← hw1]; exact (Keep.refl _ _).alloc _
    have k2 : Keep [] w1 w2 := by rw [← hw2]; exact (Keep.refl _ _).alloc _
    have k3 : Keep [] w2 w3 := by rw [← hw3]; exact (Keep.refl _ _).alloc _
    have k4 : Keep [] w3 w4 := by rw [← hw4]; exact (Keep.refl _ _).alloc _
    have k5 : Keep [] w4 w5 := by rw [← hw5]; exact (Keep.refl _ _).alloc _
    have k6 : Keep [] w5 w6 := by rw [← hw6]; exact (Keep.refl _ _).alloc _
    have k7 : Keep [] w6 W0 := by rw [← hW0]; exact (Keep.refl _ _).alloc _
    have b0 : Blk W0 w.heap.size 26 zImg.toArray := (((((((by rw [← hw1]; exact Blk.new _ _ _ : Blk w1 w.heap.size 26 zImg.toArray).keep0 k2).keep0 k3).keep0 k4).keep0 k5).keep0 k6).keep0 k7)
    have b1 : Blk W0 (w.heap.size + 1) 3 #[.int .i64 0] := ((((((by rw [← hw2, ← z1]; exact Blk.new _ _ _ : Blk w2 (w.heap.size + 1) 3 #[.int .i64 0]).keep0 k3).keep0 k4).keep0 k5).keep0 k6).keep0 k7)
    have b2 : Blk W0 (w.heap.size + 2) 27 #[.int .i64 0] := (((((by rw [← hw3, ← z2]; exact Blk.new _ _ _ : Blk w3 (w.heap.size + 2) 27 #[.int .i64 0]).keep0 k4).keep0 k5).keep0 k6).keep0 k7)
    have b3 : Blk W0 (w.heap.size + 3) 61 #[.int .i64 0, .slice none 0 0, .slice none 0 0, .slice none 0 0, .slice none 0 0] := ((((by rw [← hw4, ← z3]; exact Blk.new _ _ _ : Blk w4 (w.heap.size + 3) 61 #[.int .i64 0, .slice none 0 0, .slice none 0 0, .slice none 0 0, .slice none 0 0]).keep0 k5).keep0 k6).keep0 k7)
    have b4 : Blk W0 (w.heap.size + 4) 58 #[.pointer (some ⟨w.heap.size + 3, 0, none⟩)] := (((by rw [← hw5, ← z4]; exact Blk.new _ _ _ : Blk w5 (w.heap.size + 4) 58 #[.pointer (some ⟨w.heap.size + 3, 0, none⟩)]).keep0 k6).keep0 k7)
    have b5 : Blk W0 (w.heap.size + 5) 4 #[.bool true] := ((by rw [← hw6, ← z5]; exact Blk.new _ _ _ : Blk w6 (w.heap.size + 5) 4 #[.bool true]).keep0 k7)
    have b6 : Blk W0 (w.heap.size + 6) 9 #[.string s] := by rw [← hW0, ← z6]; exact Blk.new _ _ _
    have K0 : Keep [] w W0 := (((((k1.then k2).then k3).then k4).then k5).then k6).then k7
    rw [hw1, hw2, hw3, hw4, hw5, hw6, hW0]
    clear hw1 hw2 hw3 hw4 hw5 hw6 hW0 z1 z2 z3 z4 z5 z6 k1 k2 k3 k4 k5 k6 k7 hb1
    have hlen : (linesT s).length ≤ s.size + 1 := linesT_len s
    have hP0 : Hid (srcP s = match srFold (img0, true) (number 1 (linesT s)) with | .ok (x, false) => (x, 0, 0) | .ok (_, true) => (img0, 0, 120) | .error n => (img0, n, 120)) := if_neg hbig
    have hV0 : SrV w W0 img0 true (.slice none 0 0) [] := ⟨⟨_, _, _, [], b3, OwnImg.nil W0 _ 0, World.ownsRow_nil _ _ _ _, by omega⟩, b4, b5, b0, b1, b2, K0, by omega⟩
    refine wpIn_rangeTL (F := Fence.wide) (n := 9) (Lo := fun r _ => r = w.heap.size + 6) (ps := #[19, 20]) rfl (by omega) (gf := 65) (lb := #[.pointer (some ⟨w.heap.size + 6, 0, none⟩)]) rfl trivial (enters_of Try.func65 (by kernel_rfl) rfl)
      (lines1_seq _ s (w.heap.size + 6) W0 (by omega) b6 hs) Same.trans (fun W _ o' _ _ => fun k hk => World.putObj_heap_other (by simp at hk; omega)) (Below.refl _ _) (fun _ => rfl)
      (SrInv w) (fun c pre W => c = .ret ∧ ∃ n, SrX w W pre n)
      ?hI ?hIx ⟨img0, true, _, [], rfl, ⟨Nat.le_refl _, Nat.le_refl _, Nat.le_refl _, fun _ h => (by cases h)⟩, hV0⟩
      (fun x => { tmps := #[.string s, undef, .pointer (some ⟨w.heap.size, 0, none⟩), .pointer (some ⟨w.heap.size + 1, 0, none⟩), .pointer (some ⟨w.heap.size + 2, 0, none⟩), .pointer (some ⟨w.heap.size + 4, 0, none⟩), .pointer (some ⟨w.heap.size + 5, 0, none⟩), .int .i64 x.1, .string x.2, undef, undef, .string s, .int .i64 (s.size : Int), .bool false, undef, .agg #[.int .i64 0, .slice none 0 0, .slice none 0 0, .slice none 0 0, .slice none 0 0], .pointer (some ⟨w.heap.size + 3, 0, none⟩), .string s, .func (.func 65) #[] #[.pointer (some ⟨w.heap.size + 6, 0, none⟩)], .int .i64 x.1, .string x.2, undef, undef, undef, undef, undef, undef, undef, undef, undef, undef, undef, undef, undef, undef, undef, undef, undef, undef, undef, undef, undef, undef, undef, undef, undef, undef, undef, undef, undef, undef, undef, undef, undef, undef, undef, undef, undef, undef, undef, undef], defers := [] }) ?assign ?body ?done ?stop
    case hI =>
      rintro pre X Y row ⟨x, f, vp, ps, h0, h1, h2⟩ hg hr
      refine ⟨x, f, vp, ps, h0, h1, h2.keepF (Keep.of_grown hg) (fun g hg' => ?_)⟩
      obtain ⟨o, ho, ⟨h3, hc⟩ | ⟨_, hc⟩⟩ := hr g (by simpa using hg')
      · exact .inr ⟨by omega, o, ho, hc⟩
      · exact .inl hc
    case hIx =>
      rintro c pre X Y row ⟨rfl, n, h⟩ hg hr
      have hne : ∀ g t cs, Blk X g t cs → g ≠ w.heap.size + 6 → Blk Y g t cs := fun g t cs hb hgn => by
        refine (hg.block g hb.lt (fun e => ?_)).trans hb
        obtain ⟨o, ho, ⟨_, hc⟩ | ⟨_, hc⟩⟩ := hr g e.symm
        · rw [show X.heap[g]? = _ from hb] at ho; cases ho; cases hc
        · exact hgn hc
      refine ⟨rfl, n, h.err_, hne _ _ _ h.res (by omega), hne _ _ _ h.at_ (by omega), hne _ _ _ h.err (by omega), h.keep.trans (Keep.of_grown hg) (fun y hy hlt => ?_)⟩
      obtain ⟨o, ho, ⟨hc, _⟩ | ⟨_, hc⟩⟩ := hr y (by simpa using hy)
      · omega
      · have hc' : y = w.heap.size + 6 := hc
        omega
    case assign =>
      intro l x W K hK
      simp only [encNS]
      gi_wp2
      exact hK
    case body =>
      rintro l pre x W hl ⟨rl, hrl⟩ ⟨im, f, vp, ps, h0, h1, h2⟩ hpre
      have hx2 := line_size hpre
      have hplen := hpre.length_le
      rw [number_length, List.length_append] at hplen
      simp only [List.length_cons, List.length_nil] at hplen
      have HX : Hid (srFold (img0, true) (pre ++ [x]) = srStep (im, f) x) := by show _ = _; rw [srFold_snoc, h0]; rfl
      obtain ⟨xi, xp⟩ := x
      dsimp only at hx2
      clear h0 hpre
      have HA := Lib.hid h2
      have HLE := Lib.hid h1
      obtain ⟨vt, vm, ve, ms, hr⟩ := h2.rdr
      obtain ⟨A, cc, rfl⟩ := own_shape hr.pcs
      have hF : ∀ w', Keep [] W w' → w'.cell? ⟨w.heap.size + 4, 0, none⟩ = some (.pointer (some ⟨w.heap.size + 3, 0, none⟩)) ∧ w'.cell? ⟨w.heap.size + 3, 4, none⟩ = some (.slice A ps.length cc) := fun w' k => ⟨(h2.ptr.keep0 k).cell 0, (hr.blk.keep0 k).cell 4⟩
      clear h2 h1
      gi_wp2
      refine bj_start 8 (Keep [] W) (open_round _) rfl rfl (Keep.refl _ _).drew (fun hS hPan => ?_)
      (refine ap_val (v := ?_) 0 rfl (by kernel_rfl) (by kernel_rfl) (by kernel_rfl) (by kernel_rfl) (by rfl) hPan ?_ hS ?_; rotate_left; (intro w' hSw; obtain ⟨f1,f2⟩ := hF w' hSw; go_simp; try with_reducible rfl); simp only [Act.put, List.setIfInBounds_toArray, List.set_cons_zero, List.set_cons_succ])
      (refine ap_val (v := ?_) 1 rfl (by kernel_rfl) (by kernel_rfl) (by kernel_rfl) (by kernel_rfl) (by rfl) hPan ?_ hS ?_; rotate_left; (intro w' hSw; obtain ⟨f1,f2⟩ := hF w' hSw; go_simp; try with_reducible rfl); simp only [Act.put, List.setIfInBounds_toArray, List.set_cons_zero, List.set_cons_succ])
      (refine ap_val (v := ?_) 2 rfl (by kernel_rfl) (by kernel_rfl) (by kernel_rfl) (by kernel_rfl) (by rfl) hPan ?_ hS ?_; rotate_left; (intro w' hSw; go_simp; try with_reducible rfl); simp only [Act.put, List.setIfInBounds_toArray, List.set_cons_zero, List.set_cons_succ])
      (refine ap_val (v := ?_) 3 rfl (by kernel_rfl) (by kernel_rfl) (by kernel_rfl) (by kernel_rfl) (by rfl) hPan ?_ hS ?_; rotate_left; (intro w' hSw; go_simp; try with_reducible rfl); simp only [Act.put, List.setIfInBounds_toArray, List.set_cons_zero, List.set_cons_succ])
      (refine ap_val (v := ?_) 4 rfl (by kernel_rfl) (by kernel_rfl) (by kernel_rfl) (by kernel_rfl) (by rfl) hPan ?_ hS ?_; rotate_left; (intro w' hSw; obtain ⟨f1,f2⟩ := hF w' hSw; go_simp; try with_reducible rfl); simp only [Act.put, List.setIfInBounds_toArray, List.set_cons_zero, List.set_cons_succ])
      (refine ap_val (v := ?_) 5 rfl (by kernel_rfl) (by kernel_rfl) (by kernel_rfl) (by kernel_rfl) (by rfl) hPan ?_ hS ?_; rotate_left; (intro w' hSw; go_simp; try with_reducible rfl); simp only [Act.put, List.setIfInBounds_toArray, List.set_cons_zero, List.set_cons_succ])
      (refine ap_val (v := ?_) 6 rfl (by kernel_rfl) (by kernel_rfl) (by kernel_rfl) (by kernel_rfl) (by rfl) hPan ?_ hS ?_; rotate_left; (intro w' hSw; go_simp; try with_reducible rfl); simp only [Act.put, List.setIfInBounds_toArray, List.set_cons_zero, List.set_cons_succ])
      (refine ap_val (v := ?_) 7 rfl (by kernel_rfl) (by kernel_rfl) (by kernel_rfl) (by kernel_rfl) (by rfl) hPan ?_ hS ?_; rotate_left; (intro w' hSw; go_simp; try with_reducible rfl); simp only [Act.put, List.setIfInBounds_toArray, List.set_cons_zero, List.set_cons_succ])
      have hVd := HA.out.keep0 hS
      obtain ⟨_, _, _, _, hrd⟩ := hVd.rdr
      have hq0 := own_zero hrd.pcs
      have hV1 := hVd.setP (qs := []) (Keep.refl _ _) hq0
      have hRk := Rk.of_keep (H := w.heap.size) (((Keep.refl [w.heap.size + 3] W).drew).trans (keep_set W.drew (w.heap.size + 3) 4 (.slice A 0 cc)) (fun y hy _ => hy)) HA.out.sz (fun g hg => by simp at hg; subst hg; exact ⟨by omega, _, _, _, hr.blk⟩)
      refine ap_one 8 (by kernel_rfl) ?_
      refine op_store1 (b := w.heap.size + 3) (f := 4) (v := .slice A 0 cc) 8 rfl (by rfl) rfl rfl rfl (by kernel_rfl) rfl rfl (hrd.blk.cell 4) (hrd.blk.frozen 4) ?_
      refine ⟨fun h => (by cases h), bj_end (by kernel_rfl) ?_ _⟩
      (simp only [Act.put])
      have HV1 := Lib.hid hV1
      have HRk := Lib.hid hRk
      have HOA := Lib.hid hr.pcs
      have hzl := HA.out.sz
      have hrl1 := hRk.kf.same l (.loop rl) (by omega) hrl rfl
      have hz1 := hRk.kf.size
      clear hS hPan hVd hrd hq0 hV1 hRk hF
      generalize W.drew.setCell ⟨w.heap.size + 3, 4, none⟩ (.slice A 0 cc) = W1 at *
      gi_wp2_with (refine ⟨trivial, ?_⟩; gi_at_call 32; refine ((callsIn_wide.2 (pieces_any xp _)).inRound _).mono ?_; rintro e w' ⟨rfl, rfl⟩)
      have kV1 : Keep [] W1 (W1.alloc (.cells #[.string xp] 9)) := (Keep.refl _ _).alloc _
      have bS := Blk.new W1 9 #[.string xp]
      have szV : (W1.alloc (.cells #[.string xp] 9)).heap.size = W1.heap.size + 1 := by simp
      have hrl2 := (kV1.block l (Array.getElem?_eq_some_iff.1 hrl1).1 (by simp)).trans hrl1
      generalize W1.alloc (.cells #[.string xp] 9) = V1 at *
      obtain ⟨gb, hgb⟩ : ∃ gb, gb = W1.heap.size := ⟨_, rfl⟩
      rw [← hgb] at bS szV ⊢
      have hgz : w.heap.size + 7 ≤ gb := by omega
      have hV2 := HV1.out.keep0 kV1
      have hR2 : Rk w.heap.size W V1 := HRk.out.trans (Rk.keep0 kV1 (by omega))
      have hvb : ∀ g, (Value.slice A 0 cc).ownBlock = some g → g ≠ gb := fun g hg => by
        have := row_lt HOA.out g (by
          cases A with
          | none => simp [Value.ownBlock] at hg
          | some a =>
            have h5 : a.block = g := by simpa [Value.ownBlock] using hg
            simp [Value.ownBlock, h5])
        omega
      have hgW : W.heap.size ≤ gb := by omega
      have HGB := Lib.hid hgb
      clear kV1 hrl1 hgb
      refine wpIn_rangeFunc_ownN (l₀ := l) (r₀ := rl) rfl hrl2 (by omega) (gf := 66) (lb := #[.pointer (some ⟨gb, 0, none⟩)]) rfl trivial (enters_of Try.func66 (by kernel_rfl) rfl)
        ((pieces1_stops 6 xp gb V1 (by omega) (bS.cell 0) (by omega)).inRound l) Same.trans (Same.turn (by simp; omega)) (Below.refl _ _) (fun _ => rfl)
        (fun pre' W' => ∃ vp', SrV w W' im f vp' (pre'.map (·.2)) ∧ Rk w.heap.size W W' ∧ (∀ g, vp'.ownBlock = some g → g ≠ gb) ∧ V1.heap.size ≤ W'.heap.size)
        (fun c pre' W' => False)
        ?hI2 (fun _ _ _ _ _ hs _ _ => hs) ⟨_, hV2, hR2, hvb, Nat.le_refl _⟩
        (fun y a'' _ => a'' = { tmps := #[.string s, undef, .pointer (some ⟨w.heap.size, 0, none⟩), .pointer (some ⟨w.heap.size + 1, 0, none⟩), .pointer (some ⟨w.heap.size + 2, 0, none⟩), .pointer (some ⟨w.heap.size + 4, 0, none⟩), .pointer (some ⟨w.heap.size + 5, 0, none⟩), .int .i64 xi, .string xp, undef, .string y.2, .string s, .int .i64 (s.size : Int), .bool false, undef, .agg #[.int .i64 0, .slice none 0 0, .slice none 0 0, .slice none 0 0, .slice none 0 0], .pointer (some ⟨w.heap.size + 3, 0, none⟩), .string s, .func (.func 65) #[] #[.pointer (some ⟨w.heap.size + 6, 0, none⟩)], .int .i64 xi, .string xp, .pointer (some ⟨w.heap.size + 3, 0, none⟩), .pointer (some ⟨w.heap.size + 3, 0, none⟩), .pointer (some ⟨w.heap.size + 3, 0, none⟩), .pointer (some ⟨w.heap.size + 3, 4, none⟩), .slice A ps.length cc, .slice A 0 cc, .pointer (some ⟨w.heap.size + 3, 0, none⟩), .pointer (some ⟨w.heap.size + 3, 4, none⟩), .string xp, .func (.func 66) #[] #[.pointer (some ⟨gb, 0, none⟩)], .int .i64 y.1, .string y.2, undef, undef, undef, undef, undef, undef, undef, undef, undef, undef, undef, undef, undef, undef, undef, undef, undef, undef, undef, undef, undef, undef, undef, undef, undef, undef, undef, undef], defers := [] })
        (fun _ _ _ _ _ _ hs _ _ => hs) ?assign2 ?body2 ?done2 ?stop2
      case hI2 =>
        rintro pre' X Y row ⟨vp', i1, i2, i3, i4⟩ hg hr5
        refine ⟨vp', i1.keepF (Keep.of_grown hg) (fun g hg' => ?_), ⟨⟨Nat.le_trans i2.kf.size hg.size, fun k o hk ho hc => ?_⟩, fun k hk => ?_⟩, i3, Nat.le_trans i4 hg.size⟩
        · obtain ⟨h5, o, ho, hc⟩ := hr5 g (by simpa using hg')
          exact .inr ⟨by omega, o, ho, hc⟩
        · refine (hg.block k (Array.getElem?_eq_some_iff.1 (i2.kf.same k o hk ho hc)).1 (fun e => ?_)).trans (i2.kf.same k o hk ho hc)
          have h5 := (hr5 k e.symm).1
          have h6 := (Array.getElem?_eq_some_iff.1 ho).1
          omega
        · refine (hg.block k ?_ (fun e => ?_)).trans (i2.sm k hk)
          · simp at hk; omega
          · have h5 := (hr5 k e.symm).1
            simp at hk
            omega
      case assign2 =>
        rintro l2 pre' y W' K hi2 hK2
        simp only [encNS]
        gi_wp2
        exact hK2 _ _ (KeepsFrom.refl _ _) (Same.refl _ _) hi2 rfl
      case body2 =>
        rintro l2 pre' y a'' W' _ _ ⟨vp', i1, i2, i3, i4⟩ rfl hlt2
        obtain ⟨_, _, _, _, hr7⟩ := i1.rdr
        obtain ⟨A7, c7, e7⟩ := own_shape hr7.pcs
        subst e7
        have hne : w.heap.size + 3 ∉ (Value.slice A7 (pre'.map (·.2)).length c7).ownBlock.toList := fun hm => unown_ne hr7.pcs hr7.blk (by decide) (by simpa using hm)
        have hG : ∀ w', Keep (Value.slice A7 (pre'.map (·.2)).length c7).ownBlock.toList W' w' → w'.cell? ⟨w.heap.size + 4, 0, none⟩ = some (.pointer (some ⟨w.heap.size + 3, 0, none⟩)) ∧ w'.cell? ⟨w.heap.size + 3, 4, none⟩ = some (.slice A7 (pre'.map (·.2)).length c7) := fun w' k =>
          ⟨(i1.ptr.keep k (fun hm => unown_ne hr7.pcs i1.ptr (by decide) (by simpa using hm))).cell 0, (hr7.blk.keep k hne).cell 4⟩
        have hml : (pre'.map (·.2)).length ≤ 1000001 := by simp; have := (scan_le xp (xp.size + 1)).1; unfold piecesOf at hlt2; omega
        have hmap : (pre' ++ [y]).map (·.2) = pre'.map (·.2) ++ [y.2] := by simp
        have hI1 := Lib.hid i1
        have hI2' := Lib.hid i2
        generalize pre'.map (·.2) = qs at *
        have hsz1 := i1.sz
        clear i1 i2
        gi_wp2
        refine bj_start 10 (Keep (Value.slice A7 qs.length c7).ownBlock.toList W') (open_round _) rfl rfl (Keep.refl _ _).drew (fun hS hPan => ?_)
        (refine ap_val (v := ?_) 0 rfl (by kernel_rfl) (by kernel_rfl) (by kernel_rfl) (by kernel_rfl) (by rfl) hPan ?_ hS ?_; rotate_left; (intro w' hSw; obtain ⟨f1,f2⟩ := hG w' hSw; go_simp; try with_reducible rfl); simp only [Act.put, List.setIfInBounds_toArray, List.set_cons_zero, List.set_cons_succ])
        (refine ap_val (v := ?_) 1 rfl (by kernel_rfl) (by kernel_rfl) (by kernel_rfl) (by kernel_rfl) (by rfl) hPan ?_ hS ?_; rotate_left; (intro w' hSw; obtain ⟨f1,f2⟩ := hG w' hSw; go_simp; try with_reducible rfl); simp only [Act.put, List.setIfInBounds_toArray, List.set_cons_zero, List.set_cons_succ])
        (refine ap_val (v := ?_) 2 rfl (by kernel_rfl) (by kernel_rfl) (by kernel_rfl) (by kernel_rfl) (by rfl) hPan ?_ hS ?_; rotate_left; (intro w' hSw; go_simp; try with_reducible rfl); simp only [Act.put, List.setIfInBounds_toArray, List.set_cons_zero, List.set_cons_succ])
        (refine ap_val (v := ?_) 3 rfl (by kernel_rfl) (by kernel_rfl) (by kernel_rfl) (by kernel_rfl) (by rfl) hPan ?_ hS ?_; rotate_left; (intro w' hSw; go_simp; try with_reducible rfl); simp only [Act.put, List.setIfInBounds_toArray, List.set_cons_zero, List.set_cons_succ])
        (refine ap_val (v := ?_) 4 rfl (by kernel_rfl) (by kernel_rfl) (by kernel_rfl) (by kernel_rfl) (by rfl) hPan ?_ hS ?_; rotate_left; (intro w' hSw; obtain ⟨f1,f2⟩ := hG w' hSw; go_simp; try with_reducible rfl); simp only [Act.put, List.setIfInBounds_toArray, List.set_cons_zero, List.set_cons_succ])
        (refine ap_val (v := ?_) 5 rfl (by kernel_rfl) (by kernel_rfl) (by kernel_rfl) (by kernel_rfl) (by rfl) hPan ?_ hS ?_; rotate_left; (intro w' hSw; go_simp; try with_reducible rfl); simp only [Act.put, List.setIfInBounds_toArray, List.set_cons_zero, List.set_cons_succ])
        have kA : Keep [] W' (W'.drew.alloc (.cells #[.string y.2] 9)) := (Keep.refl [] W').drew.alloc _
        have DA : CellsAt (W'.drew.alloc (.cells #[.string y.2] 9)) W'.heap.size 0 [.string y.2] := (Blk.new W'.drew 9 #[.string y.2]).cellsAt
        refine ap_one 6 (by kernel_rfl) ?_
        refine op_run (v := .slice (some ⟨W'.heap.size, 0, none⟩) 1 1) (w' := W'.drew.alloc (.cells #[.string y.2] 9)) 6 rfl (by rfl) (by go_simp) ?_
        refine ⟨fun _ => hS.alloc _, ?_⟩
        replace hS := hS.alloc (.cells #[.string y.2] 9)
        (simp only [Act.put, List.setIfInBounds_toArray, List.set_cons_zero, List.set_cons_succ])
        have OA := own_keep0 hr7.pcs kA
        have hVA := hI1.out.keep0 kA
        have h63 := kA.size
        generalize W'.drew.alloc (.cells #[.string y.2] 9) = w3 at *
        refine ap_one 7 (by kernel_rfl) ?_
        refine op_app 7 1 (.tmp 37) (.tmp 39) 59 rfl (by rfl) rfl slice_str OA rfl rfl DA rfl (by simp [Value.oneCell']) (by omega) (by omega) (by unfold maxLen; omega) ?_
        intro v' w4 hown4 k4 hat4
        have hS4 : Keep (Value.slice A7 qs.length c7).ownBlock.toList W' w4 := hS.trans k4 (fun x hx _ => hx)
        refine ⟨fun _ => hS4, ?_⟩
        (simp only [Act.put, List.setIfInBounds_toArray, List.set_cons_zero, List.set_cons_succ])
        replace hS := hS4
        (refine ap_val (v := ?_) 8 rfl (by kernel_rfl) (by kernel_rfl) (by kernel_rfl) (by kernel_rfl) (by rfl) hPan ?_ hS ?_; rotate_left; (intro w' hSw; go_simp; try with_reducible rfl); simp only [Act.put, List.setIfInBounds_toArray, List.set_cons_zero, List.set_cons_succ])
        (refine ap_val (v := ?_) 9 rfl (by kernel_rfl) (by kernel_rfl) (by kernel_rfl) (by kernel_rfl) (by rfl) hPan ?_ hS ?_; rotate_left; (intro w' hSw; go_simp; try with_reducible rfl); simp only [Act.put, List.setIfInBounds_toArray, List.set_cons_zero, List.set_cons_succ])
        have hV4 := hVA.setP (vq := v') (qs := qs ++ [y.2]) k4 (by simpa [strs] using hown4)
        have hb4 := hr7.blk.keep hS4 hne
        obtain ⟨A', c', rfl⟩ := own_shape hown4
        refine ap_one 10 (by kernel_rfl) ?_
        refine op_store1 (b := w.heap.size + 3) (f := 4) (v := .slice A' (qs.length + 1) c') 10 rfl (by rfl) rfl rfl rfl (by kernel_rfl) rfl rfl (hb4.cell 4) (hb4.frozen 4) ?_
        refine ⟨fun h => (by cases h), bj_end (by kernel_rfl) ?_ _⟩
        (simp only [Act.put])
        have ks := keep_set w4 (w.heap.size + 3) 4 (.slice A' (qs.length + 1) c')
        have kf : Keep ((w.heap.size + 3) :: (Value.slice A7 qs.length c7).ownBlock.toList) W' (w4.setCell ⟨w.heap.size + 3, 4, none⟩ (.slice A' (qs.length + 1) c')) := (hS4.mono (fun x hx _ => List.mem_cons_of_mem _ hx)).trans ks (fun x hx _ => by simp at hx; simp [hx])
        have hcl : ∀ g ∈ (w.heap.size + 3) :: (Value.slice A7 qs.length c7).ownBlock.toList, g ≠ w.heap.size + 6 ∧ ∃ cs t fr, W'.heap[g]? = some (.cells cs t fr) := fun g hg => by
          rcases List.mem_cons.1 hg with rfl | hg
          · exact ⟨by omega, _, _, _, hr7.blk⟩
          · obtain ⟨cs, fr, hh⟩ := row_typed hr7.pcs g hg
            have := row_base hr7.pcs g hg
            exact ⟨by omega, _, _, _, hh⟩
        have hfin : Hid (ownPostG V1.heap.size (Same [gb]) (fun (pre' : List NumStr) W' => ∃ vp', SrV w W' im f vp' (pre'.map (·.2)) ∧ Rk w.heap.size W W' ∧ (∀ g, vp'.ownBlock = some g → g ≠ gb) ∧ V1.heap.size ≤ W'.heap.size) (fun c pre' W' => False) (pre' ++ [y]) W' Exit.normal { tmps := #[], defers := [] } (w4.setCell ⟨w.heap.size + 3, 4, none⟩ (.slice A' (qs.length + 1) c'))) := by
          refine ⟨kf.from (fun g hg => .inr (hcl g hg).2), Same.keep kf (fun g hg => ⟨by simp at hg; omega, fun hm => ?_⟩), _, by rw [hmap]; exact hV4, hI2'.out.trans (Rk.of_keep kf hsz1 hcl), fun g hg => ?_, Nat.le_trans i4 kf.size⟩
          · simp at hg
            subst hg
            rcases List.mem_cons.1 hm with h5 | h5
            · omega
            · exact i3 _ (by simpa using h5) rfl
          · rcases hat4 with h5 | h5
            · exact i3 g (by rw [← h5]; exact hg)
            · rw [h5] at hg
              cases hg
              omega
        clear hS hS4 hPan hV4 hb4 kf ks hcl hown4 k4 hat4
        gi_wp2
        exact hfin.out
      case done2 =>
        rintro ys W2 rfl ⟨vp', i1, i2, i3, i4⟩
        rw [number_snd] at i1
        have hpl : (piecesOf xp).length ≤ 1000001 := by have := (scan_le xp (xp.size + 1)).1; unfold piecesOf; omega
        have hpz : ∀ p ∈ piecesOf xp, p.size ≤ 1000000 := fun p hp => by have := piece_size12 hp; omega
        have hle := HLE.out.mono (show pre.length ≤ 1000000 by omega)
        have HLine := fun (h : 1 ≤ (piecesOf xp).length) => Lib.hid (line_any12 (w.heap.size + 7) (w.heap.size + 3) im vp' (piecesOf xp) f W2 i1.rdr hpl hpz hle h)
        have HST : Hid (srStep (im, f) (xi, xp) = if piecesOf xp = [] then .ok (im, f) else match lineP im (piecesOf xp) f with | some y => .ok (y, false) | none => .error xi) := rfl
        have hlp := fun y (h : lineP im (piecesOf xp) f = some y) => lineP_le HLE.out h
        obtain ⟨_, _, _, _, hr8⟩ := i1.rdr
        obtain ⟨A8, c8, e8⟩ := own_shape hr8.pcs
        subst e8
        have g1 : W2.cell? ⟨w.heap.size + 4, 0, none⟩ = some (.pointer (some ⟨w.heap.size + 3, 0, none⟩)) := i1.ptr.cell 0
        have g2 : W2.cell? ⟨w.heap.size + 3, 4, none⟩ = some (.slice A8 (piecesOf xp).length c8) := hr8.blk.cell 4
        have g3 : W2.cell? ⟨w.heap.size + 5, 0, none⟩ = some (.bool f) := i1.fst.cell 0
        have HI1 := Lib.hid i1
        have HI2 := Lib.hid i2
        by_cases hpn : piecesOf xp = []
        · have hz : (((piecesOf xp).length : Int) == 0) = true := by rw [hpn]; rfl
          have hE : Hid (srFold (img0, true) (pre ++ [(xi, xp)]) = .ok (im, f)) := by show _ = _; rw [HX.out, HST.out, if_pos hpn]
          generalize piecesOf xp = pcs at *
          clear HLine HST hlp hr8 i1 i2 hpn
          gi_wp2
          exact ⟨by rw [hsz]; exact HI2.out.kf, HI2.out.sm, im, f, _, pcs, hE.out, (by have := HLE.out.mono (show pre.length ≤ (pre ++ [(xi, xp)]).length by simp); exact this), HI1.out⟩
        · have hz : (((piecesOf xp).length : Int) == 0) = false := by
            rw [beq_eq_false_iff_ne]
            intro h
            exact hpn (List.length_eq_zero_iff.1 (by omega))
          have HL := HLine (by have := List.length_pos_iff.2 hpn; omega)
          have HST2 : Hid (srFold (img0, true) (pre ++ [(xi, xp)]) = match lineP im (piecesOf xp) f with | some y => .ok (y, false) | none => .error xi) := by show _ = _; rw [HX.out, HST.out, if_neg hpn]
          generalize piecesOf xp = pcs at *
          generalize lineP im pcs f = lr at *
          have hb3 := hr8.blk
          clear HLine HST hr8 i1 i2 hpn
          cases lr with
          | none =>
            gi_wp2_with (first
              | (refine ⟨trivial, ?_⟩; gi_at_call 33; refine ((callsIn_wide.2 HL.out).inRound _).mono ?_; rintro e w3 ⟨rfl, c3, _⟩)
              | (refine stopIn_store 26 (.tmp 2) (.tmp 53) rfl ?_))
            constructor
            have hres := c3.blk HI1.out.res (by omega) (by decide)
            have hat := c3.blk HI1.out.at_ (by omega) (by decide)
            have her := c3.blk HI1.out.err (by omega) (by decide)
            have hR3 := HI2.out.trans (Rk.chg c3 HI1.out.sz ⟨_, _, hb3⟩)
            have hk3 : Keep [] w w3 := ⟨c3.os.trans HI1.out.keep.os, c3.tape.trans HI1.out.keep.tape, c3.output.trans HI1.out.keep.output, Nat.le_trans HI1.out.keep.size c3.size, fun k hk _ => (c3.same k (Nat.lt_of_lt_of_le hk HI1.out.keep.size) (by omega) (.inl (by omega))).trans (HI1.out.keep.block k hk (by simp))⟩
            have hz3 : w.heap.size + 7 ≤ w3.heap.size := Nat.le_trans HI1.out.sz c3.size
            refine wpListIn_store_all rfl 26 (.tmp 2) (.tmp 53) rfl rfl rfl (vs := zImg) agg_image.2 hres (by intro u hu; simp at hu; rcases hu with rfl | rfl <;> rfl) rfl ?_
            intro w4 d4 k4
            have hat4 := hat.keep k4 (by simp)
            have her4 := her.keep k4 (by simp)
            have c1 := hat4.cell 0
            have f1 := hat4.frozen 0
            have c2 := her4.cell 0
            have f2 := her4.frozen 0
            simp at c1 c2
            have k1 := keep_set w4 (w.heap.size + 1) 0 (.int .i64 xi)
            have k2 := keep_set (w4.setCell ⟨w.heap.size + 1, 0, none⟩ (.int .i64 xi)) (w.heap.size + 2) 0 (.int .i64 120)
            have kk : Keep [w.heap.size, w.heap.size + 1, w.heap.size + 2] w3 ((w4.setCell ⟨w.heap.size + 1, 0, none⟩ (.int .i64 xi)).setCell ⟨w.heap.size + 2, 0, none⟩ (.int .i64 120)) := ((k4.mono (by simp)).trans (k1.mono (G := [w.heap.size, w.heap.size + 1, w.heap.size + 2]) (by simp)) (fun y hy _ => hy)).trans k2 (by simp)
            have hfin : Hid (ownPostT W0.heap.size (Same [w.heap.size + 6]) (SrInv w) (fun c pre W => c = .ret ∧ ∃ n, SrX w W pre n) (pre ++ [(xi, xp)]) W Exit.ret { tmps := #[], defers := [] } ((w4.setCell ⟨w.heap.size + 1, 0, none⟩ (.int .i64 xi)).setCell ⟨w.heap.size + 2, 0, none⟩ (.int .i64 120))) := by
              have hRf := hR3.trans (Rk.of_keep kk hz3 (fun g hg => by
                simp at hg
                rcases hg with rfl | rfl | rfl
                · exact ⟨by omega, _, _, _, hres⟩
                · exact ⟨by omega, _, _, _, hat⟩
                · exact ⟨by omega, _, _, _, her⟩))
              exact ⟨by rw [hsz]; exact hRf.kf, hRf.sm, rfl, xi, HST2.out, (d4.keep k1 (by simp)).keep k2 (by simp), (hat4.set_ 0 (.int .i64 xi)).keep k2 (by simp), (her4.keep k1 (by simp)).set_ 0 (.int .i64 120), hk3.trans kk (fun y hy hlt => by simp at hy; omega)⟩
            clear hres hat her hR3 hk3 hz3 d4 k4 hat4 her4 k1 k2 kk c3
            gi_wp2
            exact hfin.out
          | some y =>
            gi_wp2_with (first
              | (refine ⟨trivial, ?_⟩; gi_at_call 33; refine ((callsIn_wide.2 HL.out).inRound _).mono ?_; rintro e w3 ⟨rfl, c3, h3⟩; have hV3 := HI1.out.chg c3 (h3 y rfl); have g4 := hV3.fst.cell 0; have g5 := hV3.fst.frozen 0; simp at g4))
            have ks := keep_set w3 (w.heap.size + 5) 0 (.bool false)
            have hRf := (HI2.out.trans (Rk.chg c3 HI1.out.sz ⟨_, _, hb3⟩)).trans (Rk.of_keep ks hV3.sz (fun g hg => by simp at hg; subst hg; exact ⟨by omega, _, _, _, hV3.fst⟩))
            obtain ⟨vt3, vm3, ve3, ms3, hr3⟩ := hV3.rdr
            have hV4 : SrV w (w3.setCell ⟨w.heap.size + 5, 0, none⟩ (.bool false)) y false (.slice A8 pcs.length c8) pcs := by
              have own : ∀ {e size n : Nat} {v : Value} {xs : List Value}, w3.ownsRow (w.heap.size + 7) e size v n xs → (w3.setCell ⟨w.heap.size + 5, 0, none⟩ (.bool false)).ownsRow (w.heap.size + 7) e size v n xs := fun ho => own_keep ho ks (fun g hg hm => by
                have := row_base ho g (by simp [hg])
                simp at hm
                omega)
              exact ⟨⟨vt3, vm3, ve3, ms3, hr3.blk.keep ks (by simp), ⟨hr3.own.ok, hr3.own.eqm, own hr3.own.tasks, own hr3.own.modes, own hr3.own.edges, fun m hm => own (hr3.own.ques m hm), hr3.own.apart⟩, own hr3.pcs, Nat.le_trans hr3.le ks.size⟩,
                hV3.ptr.keep ks (by simp), hV3.fst.set_ 0 _, hV3.res.keep ks (by simp), hV3.at_.keep ks (by simp), hV3.err.keep ks (by simp), hV3.keep.trans ks (fun g hg hlt => by simp at hg; omega), Nat.le_trans hV3.sz ks.size⟩
            exact ⟨by rw [hsz]; exact hRf.kf, hRf.sm, y, false, _, pcs, HST2.out, (by have := hlp y rfl; rw [List.length_append]; exact this), hV4⟩
      case stop2 =>
        rintro c pre' W2 hpre' h
        exact h.elim
    case done =>
      rintro D W hD ⟨x, f, vp, ps, h0, h1, h2⟩ hD2
      have HA := Lib.hid h2
      obtain ⟨vt, vm, ve, ms, hr⟩ := h2.rdr
      have g1 : W.cell? ⟨w.heap.size + 4, 0, none⟩ = some (.pointer (some ⟨w.heap.size + 3, 0, none⟩)) := h2.ptr.cell 0
      have g3 : W.cell? ⟨w.heap.size + 5, 0, none⟩ = some (.bool f) := h2.fst.cell 0
      have hcr : CellsAt W (w.heap.size + 3) 0 [.int .i64 x.res, vt, vm, ve] := fun j u hu => by
        have : W.cell? ⟨w.heap.size + 3, j, none⟩ = #[.int .i64 x.res, vt, vm, ve, vp][j]? := hr.blk.cell j
        rw [Nat.zero_add, this]
        match j, hu with
        | 0, hu => simpa using hu
        | 1, hu => simpa using hu
        | 2, hu => simpa using hu
        | 3, hu => simpa using hu
      have HR := Lib.hid hr
      cases f
      · have HM : Hid (srcP s = (x, 0, 0)) := by show _ = _; rw [hP0.out, h0]
        have hone : ∀ u ∈ [Value.int .i64 x.res, vt, vm, ve], u.oneCell' = true := by
          obtain ⟨_, _, e1⟩ := own_shape hr.own.tasks
          obtain ⟨_, _, e2⟩ := own_shape hr.own.modes
          obtain ⟨_, _, e3⟩ := own_shape hr.own.edges
          intro u hu
          simp [e1, e2, e3] at hu
          rcases hu with rfl | rfl | rfl | rfl <;> rfl
        clear h0 h1 h2 hr
        gi_wp2_with (first
          | (refine wpListIn_agg rfl 26 (.tmp 59) rfl rfl (cs := [.int .i64 x.res, vt, vm, ve]) agg_image hcr ?_)
          | (refine stopIn_store 26 (.tmp 2) (.tmp 60) rfl ?_))
        constructor
        refine wpListIn_store_all rfl 26 (.tmp 2) (.tmp 60) rfl rfl rfl (vs := [.int .i64 x.res, vt, vm, ve]) agg_image.2 HA.out.res hone rfl ?_
        intro w4 d4 k4
        have hat4 := HA.out.at_.keep k4 (by simp)
        have her4 := HA.out.err.keep k4 (by simp)
        have c1 := hat4.cell 0
        have f1 := hat4.frozen 0
        have c2 := her4.cell 0
        have f2 := her4.frozen 0
        simp at c1 c2
        gi_wp2
        have k1 := keep_set w4 (w.heap.size + 1) 0 (.int .i64 0)
        have k2 := keep_set (w4.setCell ⟨w.heap.size + 1, 0, none⟩ (.int .i64 0)) (w.heap.size + 2) 0 (.int .i64 0)
        have kk : Keep [w.heap.size, w.heap.size + 1, w.heap.size + 2] W ((w4.setCell ⟨w.heap.size + 1, 0, none⟩ (.int .i64 0)).setCell ⟨w.heap.size + 2, 0, none⟩ (.int .i64 0)) := ((k4.mono (by simp)).trans (k1.mono (G := [w.heap.size, w.heap.size + 1, w.heap.size + 2]) (by simp)) (fun y hy _ => hy)).trans k2 (by simp)
        have hD3 := (kk.block D (Array.getElem?_eq_some_iff.1 hD2).1 (by simp; omega)).trans hD2
        refine ⟨by simp, .inl ⟨_, _, rfl, run_takeDeferred hD3, ?_⟩⟩
        have m0 := blk_putObj (.deferred none) ((d4.keep k1 (by simp)).keep k2 (by simp)) hD3 rfl
        have m1 := blk_putObj (.deferred none) ((hat4.set_ 0 (.int .i64 0)).keep k2 (by simp)) hD3 rfl
        have m2 := blk_putObj (.deferred none) ((her4.keep k1 (by simp)).set_ 0 (.int .i64 0)) hD3 rfl
        have kp := keep_putObj ((w4.setCell ⟨w.heap.size + 1, 0, none⟩ (.int .i64 0)).setCell ⟨w.heap.size + 2, 0, none⟩ (.int .i64 0)) D (.deferred none)
        have kk9 := (kk.mono (G := [w.heap.size, w.heap.size + 1, w.heap.size + 2, D]) (fun y hy _ => by simp at hy ⊢; omega)).trans kp (fun y hy _ => by simp at hy ⊢; omega)
        generalize ((w4.setCell ⟨w.heap.size + 1, 0, none⟩ (.int .i64 0)).setCell ⟨w.heap.size + 2, 0, none⟩ (.int .i64 0)).putObj D (.deferred none) = w9 at *
        refine ⟨.tuple #[.agg ([.int .i64 x.res, vt, vm, ve]).toArray, .int .i64 0, .int .i64 0], src_results m0 rfl m1 m2 rfl rfl rfl, ?_⟩
        rw [HM.out]
        have hk9 : Keep [w.heap.size, w.heap.size + 1, w.heap.size + 2, D] W w9 := kk9
        have own : ∀ {e size n : Nat} {v : Value} {xs : List Value}, W.ownsRow (w.heap.size + 7) e size v n xs → w9.ownsRow w.heap.size e size v n xs := fun ho => own_base (own_keep ho hk9 (fun g hg hm => by
          have h5 := row_base ho g (by simp [hg])
          obtain ⟨cs, fr, hh⟩ := row_typed ho g (by simp [hg])
          simp at hm
          rcases hm with rfl | rfl | rfl | rfl
          · omega
          · omega
          · omega
          · rw [hh] at hD2; cases hD2)) (by omega)
        exact ⟨vt, vm, ve, ms, rfl, ⟨HR.out.own.ok, HR.out.own.eqm, own HR.out.own.tasks, own HR.out.own.modes, own HR.out.own.edges, fun m hm => own (HR.out.own.ques m hm), HR.out.own.apart⟩, HA.out.keep.trans hk9 (fun y hy hlt => by simp at hy; omega)⟩
      · have HM : Hid (srcP s = (img0, 0, 120)) := by show _ = _; rw [hP0.out, h0]
        clear h0 h1 h2 hr hcr
        gi_wp2_with (refine stopIn_store 26 (.tmp 2) (.tmp 56) rfl ?_)
        constructor
        refine wpListIn_store_all rfl 26 (.tmp 2) (.tmp 56) rfl rfl rfl (vs := zImg) agg_image.2 HA.out.res (by intro u hu; simp at hu; rcases hu with rfl | rfl <;> rfl) rfl ?_
        intro w4 d4 k4
        have hat4 := HA.out.at_.keep k4 (by simp)
        have her4 := HA.out.err.keep k4 (by simp)
        have c1 := hat4.cell 0
        have f1 := hat4.frozen 0
        have c2 := her4.cell 0
        have f2 := her4.frozen 0
        simp at c1 c2
        gi_wp2
        have k1 := keep_set w4 (w.heap.size + 1) 0 (.int .i64 0)
        have k2 := keep_set (w4.setCell ⟨w.heap.size + 1, 0, none⟩ (.int .i64 0)) (w.heap.size + 2) 0 (.int .i64 120)
        have kk : Keep [w.heap.size, w.heap.size + 1, w.heap.size + 2] W ((w4.setCell ⟨w.heap.size + 1, 0, none⟩ (.int .i64 0)).setCell ⟨w.heap.size + 2, 0, none⟩ (.int .i64 120)) := ((k4.mono (by simp)).trans (k1.mono (G := [w.heap.size, w.heap.size + 1, w.heap.size + 2]) (by simp)) (fun y hy _ => hy)).trans k2 (by simp)
        have hD3 := (kk.block D (Array.getElem?_eq_some_iff.1 hD2).1 (by simp; omega)).trans hD2
        refine ⟨by simp, .inl ⟨_, _, rfl, run_takeDeferred hD3, ?_⟩⟩
        have m0 := blk_putObj (.deferred none) ((d4.keep k1 (by simp)).keep k2 (by simp)) hD3 rfl
        have m1 := blk_putObj (.deferred none) ((hat4.set_ 0 (.int .i64 0)).keep k2 (by simp)) hD3 rfl
        have m2 := blk_putObj (.deferred none) ((her4.keep k1 (by simp)).set_ 0 (.int .i64 120)) hD3 rfl
        have kp := keep_putObj ((w4.setCell ⟨w.heap.size + 1, 0, none⟩ (.int .i64 0)).setCell ⟨w.heap.size + 2, 0, none⟩ (.int .i64 120)) D (.deferred none)
        have kk9 := (kk.mono (G := [w.heap.size, w.heap.size + 1, w.heap.size + 2, D]) (fun y hy _ => by simp at hy ⊢; omega)).trans kp (fun y hy _ => by simp at hy ⊢; omega)
        generalize ((w4.setCell ⟨w.heap.size + 1, 0, none⟩ (.int .i64 0)).setCell ⟨w.heap.size + 2, 0, none⟩ (.int .i64 120)).putObj D (.deferred none) = w9 at *
        refine ⟨.tuple #[.agg (zImg).toArray, .int .i64 0, .int .i64 120], src_results m0 rfl m1 m2 rfl rfl rfl, ?_⟩
        rw [HM.out]
        have hk9 : Keep [w.heap.size, w.heap.size + 1, w.heap.size + 2, D] W w9 := kk9
        exact ⟨_, _, _, [], rfl, OwnImg.nil _ _ 0, HA.out.keep.trans hk9 (fun y hy hlt => by simp at hy; omega)⟩
    case stop =>
      rintro D c pre W hD hpre ⟨rfl, n, hX⟩ hD2
      have HM : Hid (srcP s = (img0, n, 120)) := by show _ = _; rw [hP0.out, srFold_prefix hpre hX.err_]
      have HX := Lib.hid hX
      clear hX
      gi_wp2
      refine ⟨by simp, .inl ⟨_, _, rfl, run_takeDeferred hD2, ?_⟩⟩
      have m0 := blk_putObj (.deferred none) HX.out.res hD2 rfl
      have m1 := blk_putObj (.deferred none) HX.out.at_ hD2 rfl
      have m2 := blk_putObj (.deferred none) HX.out.err hD2 rfl
      have m3 := HX.out.keep.trans (keep_putObj _ D (.deferred none)) (fun y hy hlt => by simp at hy; omega)
      refine ⟨.tuple #[.agg zImg.toArray, .int .i64 n, .int .i64 120], src_results m0 rfl m1 m2 rfl rfl rfl, ?_⟩
      rw [HM.out]
      exact ⟨_, _, _, [], rfl, OwnImg.nil _ _ 0, m3⟩
end Go.Proofs.Ytoepkhkaifgddaa

namespace Go.Proofs.Ytoepkhkaifgddaa
open Go.RowKit

theorem src_ex : srcP { data := #[114, 101, 115, 32, 49, 10, 116, 97, 115, 107, 32, 49, 48, 32, 56, 32, 50, 32, 48, 58, 49, 32, 35, 32, 111, 110, 101, 10, 10, 109, 111, 100, 101, 32, 48] } = (⟨1, [⟨10, 8, 2, [1, 0, 0, 0, 0, 0, 0, 0]⟩], [⟨1, []⟩], []⟩, 0, 0) := by decide +kernel

set_option maxRecDepth 100000 in
theorem alive12_any (w : World) : Calls Try.prog 13 #[] w fun e w' => e = .returned (.bool true) ∧ Keep [] w w' := by
  have HP := fun W => Lib.hid (sparse_any12 { data := #[114, 101, 115, 32, 49, 10, 116, 97, 115, 107, 32, 49, 48, 32, 56, 32, 50, 32, 48, 58, 49, 32, 35, 32, 111, 110, 101, 10, 10, 109, 111, 100, 101, 32, 48] } W (by decide))
  rw [src_ex] at HP
  go_enter Try.func13, Try.ntmps13
  go_wp2_with (first
    | (refine (HP _).out.mono ?_; rintro e w1 ⟨vt, vm, ve, ms, rfl, hO, k1⟩)
    | (refine stop_store 26 (.tmp 1) (.tmp 6) rfl ?_))
  constructor
  obtain ⟨ta, tc, rfl⟩ := own_shape hO.tasks
  obtain ⟨ma, mc, rfl⟩ := own_shape hO.modes
  obtain ⟨ea, ec, rfl⟩ := own_shape hO.edges
  refine wpList_store_all rfl 26 (.tmp 1) (.tmp 6) rfl rfl rfl (vs := [.int .i64 1, .slice ta 1 tc, .slice ma 1 mc, .slice ea 0 ec]) agg_image.2 (Blk.new _ _ _) (by simp [Value.oneCell']) rfl ?_
  intro w2 d2 k2
  have k12 : Keep [] w1 w2 := ((Keep.refl [] w1).alloc _).trans k2 (fun y hy h => by simp at hy h; omega)
  obtain ⟨tg, tcc, et, htb, htl, htc⟩ := own_some ((hO.keep0 k12).tasks) (by decide)
  obtain ⟨mg, mcc, em, hmb, hml, hmc⟩ := own_some ((hO.keep0 k12).modes) (by decide)
  obtain ⟨tb, tq, te, _, htr⟩ := (Reads.of_own (hO.keep0 k12).tasks).addr (by decide)
  obtain ⟨mb, mq, me, _, hmr⟩ := (Reads.of_own (hO.keep0 k12).modes).addr (by decide)
  have hms : ∃ m : Mdd × Option Addr × Nat, ms = [m] ∧ m.1 = ⟨1, []⟩ := by
    have h1 := hO.eqm
    match ms, h1 with
    | [m], h1 => exact ⟨m, rfl, by simpa using h1⟩
  obtain ⟨m, rfl, hm⟩ := hms
  have t3 := htr 3 (.int .i64 1) rfl
  have m0 := hmr 0 (.int .u32 1) (by simp [mddCells, hm])
  cases et
  cases em
  cases te
  cases me
  have c0 := d2.cell 0
  have c1 := d2.cell 1
  have c2 := d2.cell 2
  simp at c0 c1 c2 t3 m0
  have HK2 := Lib.hid (k1.then k12)
  clear k1 k2 k12 d2 hO HP htr hmr hm htb htl htc hmb hml hmc
  generalize w1.heap.size = g1 at *
  go_wp2
  go_ret
  exact ⟨by simp, HK2.out⟩
end Go.Proofs.Ytoepkhkaifgddaa
