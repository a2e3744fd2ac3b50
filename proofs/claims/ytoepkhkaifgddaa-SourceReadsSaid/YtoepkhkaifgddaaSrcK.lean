/- An image that grows, in memory: its rows, its own, from a block on. No condition. The reader's small parts: a piece as a number, and as a pair; walked. Condition: pieces of at most a million bytes. The reader of an image's lines: its state in memory, and lines 'res' and 'task'; walked. Condition: pieces of at most a million bytes, rows of less than a million. -/
import Derived.Test.YtoepkhkaifgddaaSrcD
import Derived.Test.YtoepkhkaifgddaaImgCp
import Derived.Test.YtoepkhkaifgddaaStSect
import Derived.Test.YtoepkhkaifgddaaPend
import Derived.Great.BuildSlice
namespace Go.Proofs.Ytoepkhkaifgddaa
open Go.RowKit

/-- All is as it was but block R, and cells of the types Us from block b on. -/
structure Chg (b R : Nat) (Us : List Nat) (W W' : World) : Prop where
  os : W'.os = W.os
  tape : W'.tape = W.tape
  output : W'.output = W.output
  size : W.heap.size ≤ W'.heap.size
  same : ∀ k, k < W.heap.size → k ≠ R → (k < b ∨ ∀ cs t fr, W.heap[k]? = some (.cells cs t fr) → t ∉ Us) → W'.heap[k]? = W.heap[k]?
section
variable {b R : Nat} {Us : List Nat} {A B C : World}
theorem Chg.refl (b R : Nat) (Us : List Nat) (W : World) : Chg b R Us W W := ⟨rfl, rfl, rfl, Nat.le_refl _, fun _ _ _ _ => rfl⟩
theorem Chg.trans (h : Chg b R Us A B) (k : Chg b R Us B C) : Chg b R Us A C :=
  ⟨k.os.trans h.os, k.tape.trans h.tape, k.output.trans h.output, Nat.le_trans h.size k.size, fun i hi hR hp => by
    have h1 := h.same i hi hR hp
    exact (k.same i (Nat.lt_of_lt_of_le hi h.size) hR (by rw [h1]; exact hp)).trans h1⟩
theorem Chg.of_keep {F : List Nat} (k : Keep F A B) (hF : ∀ g ∈ F, g < A.heap.size → g = R ∨ b ≤ g ∧ ∃ cs t fr, A.heap[g]? = some (.cells cs t fr) ∧ t ∈ Us) : Chg b R Us A B :=
  ⟨k.os, k.tape, k.output, k.size, fun i hi hR hp => k.block i hi (fun hm => by
    rcases hF i hm hi with h0 | ⟨h1, cs, t, fr, h2, h3⟩
    · exact hR h0
    · rcases hp with hp | hp
      · omega
      · exact hp cs t fr h2 h3)⟩
theorem Chg.of0 (k : Keep [] A B) : Chg b R Us A B := Chg.of_keep k (by simp)
theorem Chg.then0 (h : Chg b R Us A B) (k : Keep [] B C) : Chg b R Us A C := h.trans (Chg.of0 k)
theorem Chg.blk (h : Chg b R Us A B) {g t : Nat} {cs : Array Value} (hb : Blk A g t cs) (hg : g ≠ R) (ht : t ∉ Us) : Blk B g t cs :=
  (h.same g hb.lt hg (.inr fun cs' t' fr e => by rw [show A.heap[g]? = _ from hb] at e; cases e; exact ht)).trans hb
end

/-- The types of an image's rows. -/
abbrev imgUs : List Nat := [71, 80, 83, 76]
/-- Where a mode's queues lie, as a value. -/
abbrev queV (m : Mdd × Option Addr × Nat) : Value := .slice m.2.1 m.1.qs.length m.2.2
/-- An image whose rows are its own, from block b on. -/
structure OwnImg (W : World) (b : Nat) (x : Img) (vt vm ve : Value) (ms : List (Mdd × Option Addr × Nat)) : Prop where
  ok : x.Ok
  eqm : ms.map (·.1) = x.modes
  tasks : W.ownsRow b 71 11 vt x.tasks.length (x.tasks.flatMap tskCells)
  modes : W.ownsRow b 80 2 vm x.modes.length (ms.flatMap mddCells)
  edges : W.ownsRow b 76 23 ve x.edges.length (x.edges.flatMap edgCells)
  ques : ∀ m ∈ ms, W.ownsRow b 83 2 (queV m) m.1.qs.length (m.1.qs.flatMap queCells)
  apart : ∀ i j, (hi : i < ms.length) → (hj : j < ms.length) → i ≠ j → ∀ g, (queV ms[i]).ownBlock = some g → (queV ms[j]).ownBlock ≠ some g
theorem OwnImg.nil (W : World) (b : Nat) (r : Int) : OwnImg W b ⟨r, [], [], []⟩ (.slice none 0 0) (.slice none 0 0) (.slice none 0 0) [] :=
  ⟨⟨fun _ h => (by cases h), fun _ h => (by cases h), fun _ h => (by cases h), fun _ h => (by cases h)⟩, rfl, World.ownsRow_nil _ _ _ _, World.ownsRow_nil _ _ _ _, World.ownsRow_nil _ _ _ _, fun _ h => (by cases h), fun i j hi => (by cases hi)⟩
section
variable {W W' : World} {b : Nat} {x : Img} {vt vm ve : Value} {ms : List (Mdd × Option Addr × Nat)}
theorem OwnImg.keep {F : List Nat} (h : OwnImg W b x vt vm ve ms) (k : Keep F W W') (hF : ∀ g ∈ F, ∀ cs t fr, W.heap[g]? = some (.cells cs t fr) → t ∉ imgUs) : OwnImg W' b x vt vm ve ms := by
  have own : ∀ {e size n : Nat} {v : Value} {xs : List Value}, W.ownsRow b e size v n xs → e ∈ imgUs → W'.ownsRow b e size v n xs := fun hr he =>
    own_keep hr k (fun g hg hm => by
      obtain ⟨cs, fr, hh⟩ := row_typed hr g (by simp [hg])
      exact hF g hm cs _ fr hh he)
  exact ⟨h.ok, h.eqm, own h.tasks (by simp), own h.modes (by simp), own h.edges (by simp), fun m hm => own (h.ques m hm) (by simp), h.apart⟩
theorem OwnImg.keep0 (h : OwnImg W b x vt vm ve ms) (k : Keep [] W W') : OwnImg W' b x vt vm ve ms := h.keep k (by simp)
theorem OwnImg.base {b' : Nat} (h : OwnImg W b x vt vm ve ms) (hb : b' ≤ b) : OwnImg W b' x vt vm ve ms :=
  ⟨h.ok, h.eqm, own_base h.tasks hb, own_base h.modes hb, own_base h.edges hb, fun m hm => own_base (h.ques m hm) hb, h.apart⟩
theorem OwnImg.len (h : OwnImg W b x vt vm ve ms) : ms.length = x.modes.length := by rw [← h.eqm]; simp
theorem row_len {base : Nat} {e : TypeId} {size n : Nat} {v : Value} {xs : List Value} (h : W.ownsRow base e size v n xs) : n ≤ maxLen := by
  rcases h.2 with ⟨_, rfl⟩ | ⟨_, cap, _, _, _, _, h1, h2, _⟩
  · exact Nat.zero_le _
  · omega
theorem zip_ms : ∀ (ms : List (Mdd × Option Addr × Nat)), (ms.map (·.1)).zip (ms.map (·.2)) = ms
  | [] => rfl
  | m :: l => by simp [zip_ms l]
/-- .. as an image that only is read. -/
theorem OwnImg.at_ {ta ma ea : Option Addr} {tn tc mn mc en ec : Nat} (h : OwnImg W b x (.slice ta tn tc) (.slice ma mn mc) (.slice ea en ec) ms) :
    tn = x.tasks.length ∧ mn = x.modes.length ∧ en = x.edges.length ∧ ImgAt W ⟨ta, tc, ma, mc, ea, ec, ms.map (·.2)⟩ x := by
  obtain ⟨_, _, e1⟩ := own_shape h.tasks
  obtain ⟨_, _, e2⟩ := own_shape h.modes
  obtain ⟨_, _, e3⟩ := own_shape h.edges
  cases e1
  cases e2
  cases e3
  have hl := h.len
  refine ⟨rfl, rfl, rfl, h.ok, by simp [hl], Reads.of_own h.tasks, ?_, Reads.of_own h.edges, fun i hi hi' => ?_, row_len h.tasks, row_len h.modes, row_len h.edges, fun m hm => ?_⟩
  · have := Reads.of_own h.modes
    dsimp only
    rw [← h.eqm, zip_ms]
    simpa [hl] using this
  · have hi2 : i < ms.length := by omega
    have hq := Reads.of_own (h.ques ms[i] (List.getElem_mem hi2))
    have hm : x.modes[i] = ms[i].1 := by simp [← h.eqm]
    simp only [List.getElem_map]
    rw [hm]
    exact hq
  · rw [← h.eqm] at hm
    obtain ⟨m', hm', rfl⟩ := List.mem_map.1 hm
    exact row_len (h.ques m' hm')
theorem OwnImg.res (h : OwnImg W b x vt vm ve ms) (n : Int) : OwnImg W b { x with res := n } vt vm ve ms :=
  ⟨⟨h.ok.lon, h.ok.offs, h.ok.mp, h.ok.set⟩, h.eqm, h.tasks, h.modes, h.edges, h.ques, h.apart⟩
/-- A task more. -/
theorem OwnImg.task {vt' : Value} (h : OwnImg W b x vt vm ve ms) (t : Tsk) (ht : t.lon.length = 8) (k : Keep vt.ownBlock.toList W W') (hr : W'.ownsRow b 71 11 vt' (x.tasks.length + 1) (x.tasks.flatMap tskCells ++ tskCells t)) :
    OwnImg W' b { x with tasks := x.tasks ++ [t] } vt' vm ve ms := by
  have ap : ∀ {e size n : Nat} {v : Value} {xs : List Value}, W.ownsRow b e size v n xs → e ≠ 71 → W'.ownsRow b e size v n xs := fun ho he => own_keep ho k (row_apart h.tasks ho (Ne.symm he))
  refine ⟨⟨fun a ha => ?_, h.ok.offs, h.ok.mp, h.ok.set⟩, h.eqm, by simpa using hr, ap h.modes (by decide), ap h.edges (by decide), fun m hm => ap (h.ques m hm) (by decide), h.apart⟩
  rcases List.mem_append.1 ha with ha | ha
  · exact h.ok.lon a ha
  · simp at ha; subst ha; exact ht
/-- An edge more. -/
theorem OwnImg.edge {ve' : Value} (h : OwnImg W b x vt vm ve ms) (t : Edg) (ht : t.offs.length = 16 ∧ t.mp.length = 4) (k : Keep ve.ownBlock.toList W W') (hr : W'.ownsRow b 76 23 ve' (x.edges.length + 1) (x.edges.flatMap edgCells ++ edgCells t)) :
    OwnImg W' b { x with edges := x.edges ++ [t] } vt vm ve' ms := by
  have ap : ∀ {e size n : Nat} {v : Value} {xs : List Value}, W.ownsRow b e size v n xs → e ≠ 76 → W'.ownsRow b e size v n xs := fun ho he => own_keep ho k (row_apart h.edges ho (Ne.symm he))
  refine ⟨⟨h.ok.lon, fun a ha => ?_, fun a ha => ?_, h.ok.set⟩, h.eqm, ap h.tasks (by decide), ap h.modes (by decide), by simpa using hr, fun m hm => ap (h.ques m hm) (by decide), h.apart⟩
  · rcases List.mem_append.1 ha with ha | ha
    · exact h.ok.offs a ha
    · simp at ha; subst ha; exact ht.1
  · rcases List.mem_append.1 ha with ha | ha
    · exact h.ok.mp a ha
    · simp at ha; subst ha; exact ht.2
/-- A mode more, without queues. -/
theorem OwnImg.mode {vm' : Value} (h : OwnImg W b x vt vm ve ms) (s : Nat) (hs : s < 4294967296) (k : Keep vm.ownBlock.toList W W') (hr : W'.ownsRow b 80 2 vm' (x.modes.length + 1) (ms.flatMap mddCells ++ [.int .u32 (s : Int), .slice none 0 0])) :
    OwnImg W' b { x with modes := x.modes ++ [⟨s, []⟩] } vt vm' ve (ms ++ [(⟨s, []⟩, none, 0)]) := by
  have ap : ∀ {e size n : Nat} {v : Value} {xs : List Value}, W.ownsRow b e size v n xs → e ≠ 80 → W'.ownsRow b e size v n xs := fun ho he => own_keep ho k (row_apart h.modes ho (Ne.symm he))
  refine ⟨⟨h.ok.lon, h.ok.offs, h.ok.mp, fun a ha => ?_⟩, by simp [h.eqm], ap h.tasks (by decide), by simpa [mddCells] using hr, ap h.edges (by decide), fun m hm => ?_, fun i j hi hj hne g hg => ?_⟩
  · rcases List.mem_append.1 ha with ha | ha
    · exact h.ok.set a ha
    · simp at ha; subst ha; exact hs
  · rcases List.mem_append.1 hm with hm | hm
    · exact ap (h.ques m hm) (by decide)
    · simp at hm
      subst hm
      exact World.ownsRow_nil _ _ _ _
  · rcases Nat.lt_or_ge i ms.length with h1 | h1
    · rcases Nat.lt_or_ge j ms.length with h2 | h2
      · rw [List.getElem_append_left h1] at hg
        rw [List.getElem_append_left h2]
        exact h.apart i j h1 h2 hne g hg
      · rw [List.getElem_append_right h2]
        simp [Value.ownBlock]
    · rw [List.getElem_append_right h1] at hg
      simp [Value.ownBlock] at hg
/-- One cell of a row of its own is written. -/
theorem own_set {base : Nat} {e : TypeId} {size n c g : Nat} {xs : List Value} (h : W.ownsRow base e size (.slice (some ⟨g, 0, none⟩) n c) n xs) (i : Nat) (u : Value) (_hi : i < xs.length) :
    (W.setCell ⟨g, i, none⟩ u).ownsRow base e size (.slice (some ⟨g, 0, none⟩) n c) n (xs.set i u) := by
  refine ⟨by simpa using h.1, ?_⟩
  rcases h.2 with ⟨h2, _⟩ | ⟨g', cap, cur, hv, hg, hh, h1, h2, h3, h4⟩
  · cases h2
  · cases hv
    have hl := h.1
    refine .inr ⟨g, c, cur.setIfInBounds i u, rfl, hg, ?_, h1, h2, by simpa using h3, ?_⟩
    · simp [World.setCell, Array.getElem?_modify, hh]
    · rw [Array.toList_setIfInBounds, List.take_set, h4]
theorem own_some {base : Nat} {e : TypeId} {size n : Nat} {v : Value} {xs : List Value} (h : W.ownsRow base e size v n xs) (h0 : 0 < n) : ∃ g c, v = .slice (some ⟨g, 0, none⟩) n c ∧ base ≤ g ∧ g < W.heap.size ∧ ∃ cs, W.heap[g]? = some (.cells cs e (0, 0)) := by
  rcases h.2 with ⟨_, h2⟩ | ⟨g', cap, cur, hv, hg, hh, _⟩
  · omega
  · exact ⟨g', cap, hv, hg, (Array.getElem?_eq_some_iff.1 hh).1, cur, hh⟩
theorem mdd_flat_set (l : List (Mdd × Option Addr × Nat)) (m : Mdd × Option Addr × Nat) (q : Que) (A' : Option Addr) (c' : Nat) :
    ((l ++ [m]).flatMap mddCells).set (l.length * 2 + 1) (.slice A' (m.1.qs.length + 1) c') = (l ++ [((⟨m.1.set, m.1.qs ++ [q]⟩ : Mdd), A', c')]).flatMap mddCells := by
  have hl : (l.flatMap mddCells).length = l.length * 2 := flat_len l (fun _ _ => rfl)
  rw [List.flatMap_append, List.flatMap_append, List.set_append_right _ _ (by rw [hl]; omega), hl]
  congr 1
  simp [mddCells]
/-- A queue more of the last mode. -/
theorem OwnImg.queue {l : List (Mdd × Option Addr × Nat)} {m : Mdd × Option Addr × Nat} {gm cm : Nat} {A' : Option Addr} {c' : Nat} {W1 : World} (h : OwnImg W b x vt vm ve (l ++ [m])) (hvm : vm = .slice (some ⟨gm, 0, none⟩) x.modes.length cm) (q : Que)
    (k : Keep (queV m).ownBlock.toList W W1) (hr : W1.ownsRow b 83 2 (.slice A' (m.1.qs.length + 1) c') (m.1.qs.length + 1) (m.1.qs.flatMap queCells ++ queCells q))
    (hnew : (Value.slice A' (m.1.qs.length + 1) c').ownBlock = (queV m).ownBlock ∨ ∀ g, (Value.slice A' (m.1.qs.length + 1) c').ownBlock = some g → W.heap.size ≤ g) :
    OwnImg (W1.setCell ⟨gm, l.length * 2 + 1, none⟩ (.slice A' (m.1.qs.length + 1) c')) b { x with modes := addQ x.modes q } vt vm ve (l ++ [((⟨m.1.set, m.1.qs ++ [q]⟩ : Mdd), A', c')]) := by
  have hlen := h.len
  have hmo : x.modes = l.map (·.1) ++ [m.1] := by rw [← h.eqm]; simp
  have haq : addQ x.modes q = l.map (·.1) ++ [⟨m.1.set, m.1.qs ++ [q]⟩] := by rw [hmo, addQ_eq]
  have haql : (addQ x.modes q).length = x.modes.length := by rw [haq, hmo]; simp
  have hqm := h.ques m (by simp)
  have ap : ∀ {e size n : Nat} {v : Value} {xs : List Value}, W.ownsRow b e size v n xs → e ≠ 83 → W1.ownsRow b e size v n xs := fun ho he => own_keep ho k (row_apart hqm ho (Ne.symm he))
  have hm1 := ap h.modes (by decide)
  rw [hvm] at hm1
  have hks := keep_set W1 gm (l.length * 2 + 1) (.slice A' (m.1.qs.length + 1) c')
  obtain ⟨gm2, cm2, e2, _, _, csm, hgm⟩ := own_some hm1 (by rw [hmo]; simp)
  cases e2
  have ap2 : ∀ {e size n : Nat} {v : Value} {xs : List Value}, W1.ownsRow b e size v n xs → e ≠ 80 → (W1.setCell ⟨gm, l.length * 2 + 1, none⟩ (.slice A' (m.1.qs.length + 1) c')).ownsRow b e size v n xs := fun ho he => own_keep ho hks (fun g hg hm => by
    simp at hm
    subst hm
    exact unown_ne ho hgm he hg)
  have hlz : l.length < x.modes.length := by rw [hmo]; simp
  have hmx : ((l ++ [m]).flatMap mddCells).length = (l ++ [m]).length * 2 := flat_len _ (fun _ _ => rfl)
  refine ⟨⟨h.ok.lon, h.ok.offs, h.ok.mp, fun a ha => ?_⟩, by rw [haq]; simp, ap2 (ap h.tasks (by decide)) (by decide), ?_, ap2 (ap h.edges (by decide)) (by decide), fun a ha => ?_, fun i j hi hj hne g hg => ?_⟩
  · simp only at ha
    rw [haq] at ha
    rcases List.mem_append.1 ha with ha | ha
    · exact h.ok.set a (by rw [hmo]; simp [ha])
    · simp at ha
      subst ha
      exact h.ok.set m.1 (by rw [hmo]; simp)
  · have := own_set hm1 (l.length * 2 + 1) (.slice A' (m.1.qs.length + 1) c') (by rw [hmx]; simp; omega)
    rw [mdd_flat_set] at this
    dsimp only
    rw [haql, hvm]
    exact this
  · rcases List.mem_append.1 ha with ha | ha
    · refine ap2 (own_keep (h.ques a (by simp [ha])) k (fun g hg hm => ?_)) (by decide)
      obtain ⟨i, hi, rfl⟩ := List.getElem_of_mem ha
      have h1 := h.apart i l.length (by simp; omega) (by simp) (by omega) g (by rw [List.getElem_append_left hi]; exact hg)
      simp at h1
      exact h1 (by simpa using hm)
    · simp at ha
      subst ha
      have := ap2 hr (by decide)
      simpa [queV] using this
  · have hlast : ∀ i, (hi : i < l.length) → ∀ g, (queV l[i]).ownBlock = some g → (Value.slice A' (m.1.qs.length + 1) c').ownBlock ≠ some g := fun i hi g hg e => by
      rcases hnew with h1 | h1
      · rw [h1] at e
        have h2 := h.apart i l.length (by simp; omega) (by simp) (by omega) g (by rw [List.getElem_append_left hi]; exact hg)
        simp at h2
        exact h2 e
      · have h3 := h1 g e
        have h4 := row_lt (h.ques l[i] (by simp)) g (by simp [hg])
        omega
    have hqv : queV ((⟨m.1.set, m.1.qs ++ [q]⟩ : Mdd), A', c') = .slice A' (m.1.qs.length + 1) c' := by simp [queV]
    rcases Nat.lt_or_ge i l.length with h1 | h1
    · rw [List.getElem_append_left h1] at hg
      rcases Nat.lt_or_ge j l.length with h2 | h2
      · rw [List.getElem_append_left h2]
        have := h.apart i j (by simp; omega) (by simp; omega) hne g (by rw [List.getElem_append_left h1]; exact hg)
        rwa [List.getElem_append_left h2] at this
      · rw [List.getElem_append_right h2]
        simp only [List.getElem_singleton]
        rw [hqv]
        exact hlast i h1 g hg
    · rw [List.getElem_append_right h1] at hg
      simp only [List.getElem_singleton] at hg
      rw [hqv] at hg
      have h2 : j < l.length := by simp at hi hj; omega
      rw [List.getElem_append_left h2]
      intro e
      exact hlast j h2 g e hg
end
end Go.Proofs.Ytoepkhkaifgddaa

namespace Go.Proofs.Ytoepkhkaifgddaa
open Go.RowKit

set_option maxRecDepth 100000 in
theorem number_any12 (R : Nat) (c0 c1 c2 c3 : Value) (A : Option Addr) (cc : Nat) (ps : List ByteArray) (i : Nat) (w : World) (hb : Blk w R 61 #[c0, c1, c2, c3, .slice A ps.length cc]) (hr : Reads w 1 A ps.length (strs ps))
    (hi : i ≤ 1000000) (hl : ps.length ≤ 1000001) (hz : ∀ p ∈ ps, p.size ≤ 1000000) :
    Calls Try.prog 88 #[.pointer (some ⟨R, 0, none⟩), .int .i64 (i : Int)] w fun e w' => e = .returned (.tuple #[.int .i64 ((numP ps i).getD 0), .bool (numP ps i).isSome]) ∧ w = w' := by
  have q4 := hb.cell 4
  have p0 : (0 : Int) ≤ (i : Int) := by omega
  by_cases h : i < ps.length
  · obtain ⟨b, o, hA, hbl, hc⟩ := hr.addr (by omega)
    have hcell := hc i (.string ps[i]) (by simp [strs, h])
    have hN : Hid (numP ps i = if (readP (bytesOf ps[i])).2 = 0 then some (readP (bytesOf ps[i])).1 else none) := by show _ = _; unfold numP; rw [List.getElem?_eq_getElem h]
    have hpz := hz ps[i] (List.getElem_mem h)
    have HR := fun W => Lib.hid (read_any ps[i] W (by unfold maxLen; omega))
    have q1 : ¬ (ps.length : Int) ≤ (i : Int) := by omega
    have q2 : (i : Int) < (ps.length : Int) := by omega
    have hk := fun (h : (readP (bytesOf ps[i])).2 ≠ 0) => show (readP (bytesOf ps[i])).1 = 0 by
      unfold readP at h ⊢
      split
      · rfl
      · rename_i h1
        rw [if_neg h1] at h
        split
        · rename_i h2
          rw [if_pos h2] at h
          split
          · rfl
          · rename_i h3
            rw [if_neg h3] at h
            exact absurd rfl h
        · rfl
    rw [hA] at q4
    clear hA hc hr hb hz
    generalize ps[i] = p at *
    generalize readP (bytesOf p) = r at *
    obtain ⟨r1, r2⟩ := r
    dsimp only at hN hk
    by_cases h0 : r2 = 0
    · subst h0
      rw [hN.out, if_pos rfl]
      go_enter Try.func88, Try.ntmps88
      go_wp2_with fail
      refine (HR _).out.mono ?_
      rintro e w1 ⟨rfl, rfl⟩
      go_wp2
      go_ret2
      exact ⟨rfl, rfl⟩
    · have h2 := hk h0
      subst h2
      have q3 : (r2 == 0) = false := by simpa using h0
      rw [hN.out, if_neg h0]
      clear h0 hk
      go_enter Try.func88, Try.ntmps88
      go_wp2_with fail
      refine (HR _).out.mono ?_
      rintro e w1 ⟨rfl, rfl⟩
      go_wp2
      go_ret2
      exact ⟨rfl, rfl⟩
  · have hN : numP ps i = none := by unfold numP; rw [List.getElem?_eq_none (by omega)]
    rw [hN]
    have q1 : (ps.length : Int) ≤ (i : Int) := by omega
    clear hN hr hz
    go_enter Try.func88, Try.ntmps88
    go_wp2
    go_ret2
    exact ⟨rfl, rfl⟩

/-- A row of numbers within a block. -/
structure RowIn (w : World) (g o : Nat) (t : TypeId) (cs : Array Value) (l : List Int) : Prop where
  blk : Blk w g t cs
  at_ : ∀ j, (hj : j < l.length) → cs[o + j]? = some (.int .i64 l[j])
theorem RowIn.cell {w : World} {g o : Nat} {t : TypeId} {cs : Array Value} {l : List Int} (h : RowIn w g o t cs l) {j : Nat} (hj : j < l.length) : w.cell? ⟨g, o + j, none⟩ = some (.int .i64 l[j]) := by rw [h.blk.cell, h.at_ j hj]
theorem getD_of {l : List Int} {j : Nat} (hj : j < l.length) : l.getD j 0 = l[j] := by simp [List.getD, hj]

set_option maxRecDepth 100000 in
set_option maxHeartbeats 1000000 in
/-- A piece as a pair: what is written is the row's one cell. -/
theorem pair_any12 (s : ByteArray) (sg : Nat) (g o : Nat) (t : TypeId) (cs : Array Value) (l : List Int) (w : World) (h : RowIn w g o t cs l) (hs : s.size ≤ 1000000) (_hl : l.length ≤ 1000) :
    Calls Try.prog 89 #[.string s, .int .u8 (sg : Int), .slice (some ⟨g, o, none⟩) l.length l.length] w fun e w' =>
      e = .returned (.bool (pairP sg s l).isSome) ∧ (pairP sg s l = none → w = w') ∧ (∀ m, pairP sg s l = some m → ∃ j n, j < l.length ∧ m = l.set j n ∧ w' = w.setCell ⟨g, o + j, none⟩ (.int .i64 n)) := by
  have hlt := idxB_lt s sg
  by_cases h0 : 0 ≤ idxB s sg
  · obtain ⟨n, hn⟩ : ∃ n : Nat, idxB s sg = n := ⟨(idxB s sg).toNat, by omega⟩
    have hsp : splitB s sg = (s.extract 0 n, s.extract (n + 1) s.size, true) := by unfold splitB; rw [if_pos h0, hn]; rfl
    have HI : Hid (Calls Try.prog 85 #[.string s, .int .u8 (sg : Int)] w fun e w' => e = .returned (.int .i64 (n : Int)) ∧ w = w') := by rw [← hn]; exact sIdx_any s sg w
    rw [hn] at hlt
    have hPP : Hid (pairP sg s l = if (readP (bytesOf (s.extract 0 n))).2 = 0 ∧ (readP (bytesOf (s.extract (n + 1) s.size))).2 = 0 ∧ (readP (bytesOf (s.extract 0 n))).1 < (l.length : Int) ∧ (readP (bytesOf (s.extract (n + 1) s.size))).1 ≠ 0 ∧ l.getD (readP (bytesOf (s.extract 0 n))).1.toNat 0 = 0
      then some (l.set (readP (bytesOf (s.extract 0 n))).1.toNat (readP (bytesOf (s.extract (n + 1) s.size))).1) else none) := by
      show _ = _
      unfold pairP
      rw [hsp]
      rfl
    have HR1 := fun W => Lib.hid (read_any (s.extract 0 n) W (by unfold maxLen; rw [ByteArray.size_extract]; omega))
    have HR2 := fun W => Lib.hid (read_any (s.extract (n + 1) s.size) W (by unfold maxLen; rw [ByteArray.size_extract]; omega))
    have hr1 := readP_range (bytesOf (s.extract 0 n))
    have q1 : ¬ ((n : Int) < 0) := by omega
    have q2 : (n : Int) + 1 ≤ s.size := by omega
    have q3 : (n : Int) ≤ s.size := by omega
    have q4 : (0 : Int) ≤ (n : Int) := by omega
    clear h0 hn hsp
    generalize readP (bytesOf (s.extract 0 n)) = a at *
    generalize readP (bytesOf (s.extract (n + 1) s.size)) = b at *
    obtain ⟨a1, a2⟩ := a
    obtain ⟨b1, b2⟩ := b
    dsimp only at hPP hr1
    obtain ⟨k, rfl⟩ : ∃ k : Nat, a1 = (k : Int) := ⟨a1.toNat, by omega⟩
    rw [Int.toNat_natCast] at hPP
    have hc : ¬ a2 = 0 ∨ (a2 = 0 ∧ ¬ b2 = 0) ∨ (a2 = 0 ∧ b2 = 0 ∧ ¬ k < l.length) ∨ (a2 = 0 ∧ b2 = 0 ∧ k < l.length ∧ b1 = 0) ∨ (a2 = 0 ∧ b2 = 0 ∧ k < l.length ∧ ¬ b1 = 0) := by omega
    rcases hc with e1 | ⟨rfl, e2⟩ | ⟨rfl, rfl, e3⟩ | ⟨rfl, rfl, e3, rfl⟩ | ⟨rfl, rfl, e3, e4⟩
    · have q5 : (a2 != 0) = true := by simpa using e1
      have hE : Hid (pairP sg s l = none) := by show _ = _; rw [hPP.out, if_neg (by rintro ⟨h, _⟩; exact e1 h)]
      clear e1 hPP
      go_enter Try.func89, Try.ntmps89
      go_wp2_with (refine HI.out.mono ?_; rintro e w1 ⟨rfl, rfl⟩)
      refine (HR1 _).out.mono ?_
      rintro e w1 ⟨rfl, rfl⟩
      go_wp2_with fail
      refine (HR2 _).out.mono ?_
      rintro e w1 ⟨rfl, rfl⟩
      go_wp2
      go_ret
      rw [hE.out]
      exact ⟨rfl, fun _ => rfl, fun m hm => (by cases hm)⟩
    · have q6 : (b2 != 0) = true := by simpa using e2
      have hE : Hid (pairP sg s l = none) := by show _ = _; rw [hPP.out, if_neg (by rintro ⟨_, h, _⟩; exact e2 h)]
      clear e2 hPP
      go_enter Try.func89, Try.ntmps89
      go_wp2_with (refine HI.out.mono ?_; rintro e w1 ⟨rfl, rfl⟩)
      refine (HR1 _).out.mono ?_
      rintro e w1 ⟨rfl, rfl⟩
      go_wp2_with fail
      refine (HR2 _).out.mono ?_
      rintro e w1 ⟨rfl, rfl⟩
      go_wp2
      go_ret
      rw [hE.out]
      exact ⟨rfl, fun _ => rfl, fun m hm => (by cases hm)⟩
    · have q7 : ((l.length : Int) ≤ (k : Int)) := by omega
      have hE : Hid (pairP sg s l = none) := by show _ = _; rw [hPP.out, if_neg (by rintro ⟨_, _, h, _⟩; exact e3 (by omega))]
      clear e3 hPP
      go_enter Try.func89, Try.ntmps89
      go_wp2_with (refine HI.out.mono ?_; rintro e w1 ⟨rfl, rfl⟩)
      refine (HR1 _).out.mono ?_
      rintro e w1 ⟨rfl, rfl⟩
      go_wp2_with fail
      refine (HR2 _).out.mono ?_
      rintro e w1 ⟨rfl, rfl⟩
      go_wp2
      go_ret
      rw [hE.out]
      exact ⟨rfl, fun _ => rfl, fun m hm => (by cases hm)⟩
    · have q7 : ¬ ((l.length : Int) ≤ (k : Int)) := by omega
      have hE : Hid (pairP sg s l = none) := by show _ = _; rw [hPP.out, if_neg (by rintro ⟨_, _, _, h, _⟩; exact h rfl)]
      clear e3 hPP
      go_enter Try.func89, Try.ntmps89
      go_wp2_with (refine HI.out.mono ?_; rintro e w1 ⟨rfl, rfl⟩)
      refine (HR1 _).out.mono ?_
      rintro e w1 ⟨rfl, rfl⟩
      go_wp2_with fail
      refine (HR2 _).out.mono ?_
      rintro e w1 ⟨rfl, rfl⟩
      go_wp2
      go_ret
      rw [hE.out]
      exact ⟨rfl, fun _ => rfl, fun m hm => (by cases hm)⟩
    · have q7 : ¬ ((l.length : Int) ≤ (k : Int)) := by omega
      have q8 : (k : Int) < (l.length : Int) := by omega
      have q9 : (0 : Int) ≤ (k : Int) := by omega
      have q10 : (b1 == 0) = false := by simpa using e4
      have hcell := h.cell e3
      have hfz := h.blk.frozen (o + k)
      rw [getD_of e3] at hPP
      by_cases e5 : l[k] = 0
      · have hE : Hid (pairP sg s l = some (l.set k b1)) := by show _ = _; rw [hPP.out, if_pos ⟨rfl, rfl, q8, e4, e5⟩]
        rw [e5] at hcell
        clear e4 e5 hPP
        go_enter Try.func89, Try.ntmps89
        go_wp2_with (refine HI.out.mono ?_; rintro e w1 ⟨rfl, rfl⟩)
        refine (HR1 _).out.mono ?_
        rintro e w1 ⟨rfl, rfl⟩
        go_wp2_with fail
        refine (HR2 _).out.mono ?_
        rintro e w1 ⟨rfl, rfl⟩
        go_wp2
        go_ret
        rw [hE.out]
        exact ⟨rfl, fun h => (by cases h), fun m hm => ⟨k, b1, e3, (by cases hm; rfl), rfl⟩⟩
      · have q11 : (l[k] != 0) = true := by simpa using e5
        have hE : Hid (pairP sg s l = none) := by show _ = _; rw [hPP.out, if_neg (by rintro ⟨_, _, _, _, h⟩; exact e5 h)]
        clear e4 e5 hPP
        generalize l[k] = lk at *
        go_enter Try.func89, Try.ntmps89
        go_wp2_with (refine HI.out.mono ?_; rintro e w1 ⟨rfl, rfl⟩)
        refine (HR1 _).out.mono ?_
        rintro e w1 ⟨rfl, rfl⟩
        go_wp2_with fail
        refine (HR2 _).out.mono ?_
        rintro e w1 ⟨rfl, rfl⟩
        go_wp2
        go_ret
        rw [hE.out]
        exact ⟨rfl, fun _ => rfl, fun m hm => (by cases hm)⟩
  · obtain ⟨n, hn⟩ : ∃ n : Int, idxB s sg = n := ⟨_, rfl⟩
    have hsp : splitB s sg = ({ data := #[] }, { data := #[] }, false) := by unfold splitB; rw [if_neg h0]
    have HI : Hid (Calls Try.prog 85 #[.string s, .int .u8 (sg : Int)] w fun e w' => e = .returned (.int .i64 n) ∧ w = w') := by rw [← hn]; exact sIdx_any s sg w
    have hE : Hid (pairP sg s l = none) := by show _ = _; unfold pairP; rw [hsp, if_neg (by simp)]
    rw [hn] at h0
    have q1 : n < 0 := by omega
    clear hn hsp h0 hlt
    go_enter Try.func89, Try.ntmps89
    go_wp2_with (refine HI.out.mono ?_; rintro e w1 ⟨rfl, rfl⟩)
    go_ret
    rw [hE.out]
    exact ⟨rfl, fun _ => rfl, fun m hm => (by cases hm)⟩
end Go.Proofs.Ytoepkhkaifgddaa

namespace Go.Proofs.Ytoepkhkaifgddaa
open Go.RowKit

/-- A slice literal of one aggregate. -/
theorem exec_slice_one {P : Program} {t e : TypeId} {size bytes : Nat} (hS : SliceOf P t e size bytes) {cs : List Value} (hl : cs.length = size) (hb : size ≤ 1000) {ev : Operand → Value} {x : Operand} (hx : ev x = .agg cs.toArray) (w : World) {dst : Option Tmp} {ty : TypeId} {pos : String} {after : Array Edge} {gd : Option (Nat × Bool)} :
    (execOp ev ⟨dst, .buildSlice t 1 #[(0, x)], ty, pos, after, gd⟩).run P w = .ok (.value (.slice (some ⟨w.heap.size, 0, none⟩) 1 1)) (w.alloc (.cells cs.toArray e)) := by
  obtain ⟨ht, ⟨i, z, hi, hz, hsz, _, hzs⟩, hpos⟩ := hS.parts
  have hf : Instr.fill (fun j => some (j * i.size, i.size)) ((Array.range (1 * i.size)).map (z.cells[· % z.cells.size]!)) #[(0, Value.agg cs.toArray)].toList = some cs.toArray := by
    have := Great.fill_whole (s := i.size) (by omega) [Value.agg cs.toArray] ((Array.range (1 * i.size)).map (z.cells[· % z.cells.size]!)) (by simp [Value.cells, hl, hsz]) (by simp)
    simpa [Value.cells] using this
  have h := run_buildSlice (P := P) w t e 1 #[(0, Value.agg cs.toArray)] cs.toArray i z ht hi hz (by omega) (by omega) hf
  unfold execOp
  simp [hx, h]
/-- The reader: block R, its image's rows, its pieces. -/
structure RdrV (W : World) (b R : Nat) (x : Img) (vt vm ve : Value) (ms : List (Mdd × Option Addr × Nat)) (vp : Value) (ps : List ByteArray) : Prop where
  blk : Blk W R 61 #[.int .i64 x.res, vt, vm, ve, vp]
  own : OwnImg W b x vt vm ve ms
  pcs : W.ownsRow b 9 1 vp ps.length (strs ps)
  le : b ≤ W.heap.size
def RdrIs (W : World) (b R : Nat) (x : Img) (vp : Value) (ps : List ByteArray) : Prop := ∃ vt vm ve ms, RdrV W b R x vt vm ve ms vp ps
/-- What a line's part answers and leaves. -/
def LinePost (w : World) (b R : Nat) (r : Option Img) (vp : Value) (ps : List ByteArray) (e : Ending) (w' : World) : Prop :=
  e = .returned (.bool r.isSome) ∧ Chg b R imgUs w w' ∧ ∀ y, r = some y → RdrIs w' b R y vp ps
section
variable {W W' : World} {b R : Nat} {x y : Img} {vt vm ve vp : Value} {ms : List (Mdd × Option Addr × Nat)} {ps : List ByteArray}
theorem RdrV.keep0 (h : RdrV W b R x vt vm ve ms vp ps) (k : Keep [] W W') : RdrV W' b R x vt vm ve ms vp ps := ⟨h.blk.keep0 k, h.own.keep0 k, own_keep0 h.pcs k, Nat.le_trans h.le k.size⟩
theorem RdrV.store {cs : Array Value} (hb : Blk W R 61 cs) (ho : OwnImg W b y vt vm ve ms) (hp : W.ownsRow b 9 1 vp ps.length (strs ps)) (hle : b ≤ W.heap.size) (i : Nat) (u : Value) (e : cs.setIfInBounds i u = #[.int .i64 y.res, vt, vm, ve, vp]) :
    RdrV (W.setCell ⟨R, i, none⟩ u) b R y vt vm ve ms vp ps := by
  have k := keep_set W R i u
  refine ⟨by rw [← e]; exact hb.set_ i u, ho.keep k (fun g hg cs' t fr hh => ?_), own_keep hp k (fun g hg hm => ?_), Nat.le_trans hle k.size⟩
  · simp at hg
    subst hg
    rw [show W.heap[g]? = _ from hb] at hh
    cases hh
    decide
  · simp at hm
    subst hm
    exact unown_ne hp hb (by decide) hg
theorem RdrV.chg {w' : World} {F : List Nat} (h : RdrV W b R x vt vm ve ms vp ps) (k : Keep F W w') (hF : ∀ g ∈ F, g < W.heap.size → g = R ∨ g ∈ vt.ownBlock.toList ∨ g ∈ vm.ownBlock.toList ∨ g ∈ ve.ownBlock.toList ∨ ∃ m ∈ ms, g ∈ (queV m).ownBlock.toList) : Chg b R imgUs W w' := by
  refine Chg.of_keep k (fun g hg hlt => ?_)
  rcases hF g hg hlt with rfl | h1 | h1 | h1 | ⟨m, hm, h1⟩
  · exact .inl rfl
  · obtain ⟨cs, fr, hh⟩ := row_typed h.own.tasks g h1
    exact .inr ⟨row_base h.own.tasks g h1, _, _, _, hh, by simp⟩
  · obtain ⟨cs, fr, hh⟩ := row_typed h.own.modes g h1
    exact .inr ⟨row_base h.own.modes g h1, _, _, _, hh, by simp⟩
  · obtain ⟨cs, fr, hh⟩ := row_typed h.own.edges g h1
    exact .inr ⟨row_base h.own.edges g h1, _, _, _, hh, by simp⟩
  · obtain ⟨cs, fr, hh⟩ := row_typed (h.own.ques m hm) g h1
    exact .inr ⟨row_base (h.own.ques m hm) g h1, _, _, _, hh, by simp⟩
/-- The pieces, as they are read. -/
theorem RdrV.num (h : RdrV W b R x vt vm ve ms vp ps) (hl : ps.length ≤ 1000001) (hz : ∀ p ∈ ps, p.size ≤ 1000000) {i : Nat} (hi : i ≤ 1000000) :
    Calls Try.prog 88 #[.pointer (some ⟨R, 0, none⟩), .int .i64 (i : Int)] W fun e w' => e = .returned (.tuple #[.int .i64 ((numP ps i).getD 0), .bool (numP ps i).isSome]) ∧ W = w' := by
  obtain ⟨A, cc, e⟩ := own_shape h.pcs
  subst e
  exact number_any12 R _ _ _ _ A cc ps i W h.blk (Reads.of_own h.pcs) hi hl hz
end

set_option maxRecDepth 100000 in
theorem res_any12 (b R : Nat) (x : Img) (vp : Value) (ps : List ByteArray) (w : World) (h : RdrIs w b R x vp ps) (hl : ps.length ≤ 1000001) (hz : ∀ p ∈ ps, p.size ≤ 1000000) :
    Calls Try.prog 67 #[.pointer (some ⟨R, 0, none⟩)] w (LinePost w b R ((resP ps).map fun n => { x with res := n }) vp ps) := by
  obtain ⟨vt, vm, ve, ms, hR⟩ := h
  have HN := Lib.hid (hR.num hl hz (i := 1) (by decide))
  have hF : Hid (RdrV (w.setCell ⟨R, 0, none⟩ (.int .i64 ((numP ps 1).getD 0))) b R { x with res := (numP ps 1).getD 0 } vt vm ve ms vp ps) := RdrV.store (y := { x with res := (numP ps 1).getD 0 }) hR.blk (hR.own.res _) hR.pcs hR.le 0 _ rfl
  have hC : Hid (Chg b R imgUs w (w.setCell ⟨R, 0, none⟩ (.int .i64 ((numP ps 1).getD 0)))) := hR.chg (keep_set w R 0 _) (fun g hg _ => .inl (by simpa using hg))
  obtain ⟨A, cc, rfl⟩ := own_shape hR.pcs
  have q0 := hR.blk.cell 0
  have q4 := hR.blk.cell 4
  have f0 := hR.blk.frozen 0
  have q4' : (w.setCell ⟨R, 0, none⟩ (.int .i64 ((numP ps 1).getD 0))).cell? ⟨R, 4, none⟩ = some (.slice A ps.length cc) := hF.out.blk.cell 4
  have hRP : Hid (resP ps = if ps.length = 2 then numP ps 1 else none) := rfl
  clear hR
  cases hn : numP ps 1 with
  | none =>
    rw [hn] at HN hF hC q4'
    have e : (resP ps).map (fun n => { x with res := n }) = none := by rw [hRP.out, hn]; split <;> rfl
    rw [e]
    clear e hRP hn
    simp only [Option.getD_none, Option.isSome_none] at HN hF hC q4'
    go_enter Try.func67, Try.ntmps67
    go_wp2_with fail
    refine HN.out.mono ?_
    rintro e w1 ⟨rfl, rfl⟩
    go_wp2
    go_ret
    exact ⟨rfl, hC.out, fun y hy => (by cases hy)⟩
  | some n =>
    rw [hn] at HN hF hC q4'
    simp only [Option.getD_some, Option.isSome_some] at HN hF hC q4'
    by_cases h2 : ps.length = 2
    · have e : (resP ps).map (fun n => { x with res := n }) = some { x with res := n } := by rw [hRP.out, if_pos h2, hn]; rfl
      rw [e]
      have q5 : ((ps.length : Int) == 2) = true := by rw [beq_iff_eq]; omega
      clear e hRP hn h2
      generalize ps.length = pl at *
      go_enter Try.func67, Try.ntmps67
      go_wp2_with fail
      refine HN.out.mono ?_
      rintro e w1 ⟨rfl, rfl⟩
      go_wp2
      go_ret
      exact ⟨rfl, hC.out, fun y hy => (by cases hy; exact ⟨_, _, _, _, hF.out⟩)⟩
    · have e : (resP ps).map (fun n => { x with res := n }) = none := by rw [hRP.out, if_neg h2]; rfl
      rw [e]
      have q5 : ((ps.length : Int) == 2) = false := by rw [beq_eq_false_iff_ne]; omega
      clear e hRP hn h2
      go_enter Try.func67, Try.ntmps67
      go_wp2_with fail
      refine HN.out.mono ?_
      rintro e w1 ⟨rfl, rfl⟩
      go_wp2
      go_ret
      exact ⟨rfl, hC.out, fun y hy => (by cases hy)⟩
end Go.Proofs.Ytoepkhkaifgddaa
