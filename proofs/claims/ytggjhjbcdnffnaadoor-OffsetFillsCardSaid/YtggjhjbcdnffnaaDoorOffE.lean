/- The plain law of filled images: an image with found offsets may be. No program in sight. An image with found offsets (offset's Fill). Condition: the table of math/bits lies where the program's text lays it; an image that may be. -/
import Derived.Test.YtggjhjbcdnffnaaDoorOffD
namespace Go.Proofs.YtggjhjbcdnffnaaDoor

theorem all_fbad {α : Type} (ok : Nat → α → Bool) : ∀ (l : List α) (i : Nat), (∀ k, (hk : k < l.length) → ok (i + k) l[k] = true) → firstBad ok i l = none
  | [], _, _ => rfl
  | a :: l, i, h => by
    have h0 := h 0 (by simp)
    rw [firstBad, if_pos (by simpa using h0)]
    exact all_fbad ok l (i + 1) (fun k hk => by
      have := h (k + 1) (by simpa using hk)
      rw [show i + 1 + k = i + (k + 1) by omega]
      simpa using this)
theorem all_fmode (all : Nat) : ∀ (l : List Mdd) (i : Nat), (∀ m ∈ l, mddErr all m = none) → firstMode all i l = none
  | [], _, _ => rfl
  | a :: l, i, h => by
    rw [firstMode, h a (by simp)]
    exact all_fmode all l (i + 1) (fun m hm => h m (by simp [hm]))
theorem chk_of {x : Img} (h : RightI x) : chkImg x = (0, 0) := by
  unfold chkImg
  rw [if_neg (by rw [inR_iff.2 h.res]; simp), if_neg (by rw [inR_iff.2 (by have := h.nt; omega : (1 : Int) ≤ (x.tasks.length : Int) ∧ (x.tasks.length : Int) ≤ 16)]; simp),
    all_fbad _ x.tasks 0 (fun k hk => h.task _ (List.getElem_mem hk))]
  show (if inR x.modes.length 1 8 = false then _ else _) = _
  rw [if_neg (by rw [inR_iff.2 (by have := h.nm; omega : (1 : Int) ≤ (x.modes.length : Int) ∧ (x.modes.length : Int) ≤ 8)]; simp),
    all_fmode _ x.modes 0 (fun m hm => by obtain ⟨a, b⟩ := h.mode m hm; unfold mddErr; rw [if_pos a, if_pos b])]
  show (if x.edges.length > 24 then _ else _) = _
  rw [if_neg (by have := h.ne; omega), all_fbad _ x.edges 0 (fun k hk => by rw [Nat.zero_add]; exact h.edge k hk)]

/-- An edge with found offsets, if it is of the protocol that wants some. -/
def fillEdge (x : Img) (j : Nat) (e : Edg) : Edg := if e.prot = 3 then { e with offs := findR x j } else e
def fillTo (x : Img) (k : Nat) : List Edg := x.edges.mapIdx (fun j e => if j < k then fillEdge x j e else e)
def fillX (x : Img) : Img := { x with edges := fillTo x x.edges.length }
/-- Are there offsets for an edge, if it wants some? -/
def goodF (x : Img) (j : Nat) : Bool := match x.edges[j]? with | some e => !decide (e.prot = 3) || findB x j | none => true
theorem fillTo_len (x : Img) (k : Nat) : (fillTo x k).length = x.edges.length := by simp [fillTo]
theorem fillTo_get (x : Img) (k j : Nat) (h : j < x.edges.length) : (fillTo x k)[j]? = some (if j < k then fillEdge x j x.edges[j] else x.edges[j]) := by
  unfold fillTo
  rw [List.getElem?_mapIdx, List.getElem?_eq_getElem h]; rfl
theorem fillTo_zero (x : Img) : fillTo x 0 = x.edges := by
  apply List.ext_getElem?
  intro j
  rcases Nat.lt_or_ge j x.edges.length with h | h
  · rw [fillTo_get x 0 j h, if_neg (by omega), List.getElem?_eq_getElem h]
  · rw [List.getElem?_eq_none (by rw [fillTo_len]; omega), List.getElem?_eq_none (by omega)]
theorem fillTo_skip (x : Img) (k : Nat) (h : k < x.edges.length) (hp : x.edges[k].prot ≠ 3) : fillTo x (k + 1) = fillTo x k := by
  apply List.ext_getElem?
  intro j
  rcases Nat.lt_or_ge j x.edges.length with hj | hj
  · rw [fillTo_get _ _ _ hj, fillTo_get _ _ _ hj]
    by_cases e : j = k
    · subst e
      rw [if_pos (by omega), if_neg (by omega)]
      unfold fillEdge
      rw [if_neg hp]
    · by_cases h1 : j < k
      · rw [if_pos h1, if_pos (show j < k + 1 by omega)]
      · rw [if_neg h1, if_neg (show ¬ j < k + 1 by omega)]
  · rw [List.getElem?_eq_none (by rw [fillTo_len]; omega), List.getElem?_eq_none (by rw [fillTo_len]; omega)]
/-- What stands ahead of an edge, and behind it. -/
theorem fillTo_split (x : Img) (k : Nat) (h : k < x.edges.length) (hp : x.edges[k].prot = 3) : ∃ A B : List Edg, fillTo x k = A ++ x.edges[k] :: B ∧ fillTo x (k + 1) = A ++ { x.edges[k] with offs := findR x k } :: B ∧ A.length = k := by
  have hk := fillTo_get x k k h
  rw [if_neg (by omega)] at hk
  have hlen := fillTo_len x k
  refine ⟨(fillTo x k).take k, (fillTo x k).drop (k + 1), ?_, ?_, by rw [List.length_take, hlen]; omega⟩
  · have e := (List.take_append_drop k (fillTo x k)).symm
    rw [List.drop_eq_getElem_cons (by omega)] at e
    have hg : (fillTo x k)[k]'(by omega) = x.edges[k] := by
      have := List.getElem?_eq_getElem (l := fillTo x k) (show k < (fillTo x k).length by omega)
      rw [hk] at this
      exact (Option.some.inj this).symm
    rw [hg] at e
    exact e
  · apply List.ext_getElem?
    intro j
    rcases Nat.lt_or_ge j x.edges.length with hj | hj
    · rw [fillTo_get _ _ _ hj]
      rcases Nat.lt_trichotomy j k with h1 | h1 | h1
      · rw [if_pos (by omega), List.getElem?_append_left (by rw [List.length_take]; omega), List.getElem?_take_of_lt h1, fillTo_get _ _ _ hj, if_pos h1]
      · subst h1
        rw [if_pos (by omega), List.getElem?_append_right (by rw [List.length_take]; omega), List.length_take, hlen, show j - min j x.edges.length = 0 by omega]
        unfold fillEdge
        rw [if_pos hp]; rfl
      · rw [if_neg (by omega), List.getElem?_append_right (by rw [List.length_take]; omega), List.length_take, hlen, show j - min k x.edges.length = (j - (k + 1)) + 1 by omega, List.getElem?_cons_succ, List.getElem?_drop,
          show k + 1 + (j - (k + 1)) = j by omega, fillTo_get _ _ _ hj, if_neg (by omega)]
    · rw [List.getElem?_eq_none (by rw [fillTo_len]; omega), List.getElem?_eq_none (by simp [List.length_take, hlen]; omega)]

theorem offs_all (a b : Nat) : ∀ (l : List Int) (k : Nat), (∀ j z, l[j]? = some z → (0 ≤ z ∧ z ≤ 16384) ∧ (z ≠ 0 → b.testBit (k + j) = true ∧ a.testBit (k + j) = false)) → offsOk 3 a b k l = true
  | [], _, _ => rfl
  | z :: l, k, h => by
    obtain ⟨h1, h2⟩ := h 0 z rfl
    rw [offsOk, inR_iff.2 h1, offs_all a b l (k + 1) (fun j u hu => by
      have := h (j + 1) u (by simpa using hu)
      rw [show k + 1 + j = k + (j + 1) by omega]
      exact this)]
    by_cases hz : z = 0
    · subst hz; rfl
    · obtain ⟨h3, h4⟩ := h2 hz
      rw [Nat.add_zero] at h3 h4
      rw [h3, h4]
      simp
theorem findR_ok {x : Img} (k : Nat) : OffOk (findR x k) := by
  unfold findR
  split
  · rename_i h
    exact (findTo_ok h 16).1
  · exact z16_ok
theorem find_zero {fits : List Int → Bool} {s : Nat} {j : Nat} (hj : j < 16) (hb : s.testBit j = false) : ∀ k, (findTo fits s k)[j]? = some 0
  | 0 => by rw [findTo, farL_get s 16384 j hj, hb]; rfl
  | k + 1 => by
    rw [findTo]
    split
    · rename_i h
      have : k ≠ j := fun e => by rw [e, hb] at h; cases h
      rw [stepO, List.getElem?_set_ne this]
      exact find_zero hj hb k
    · exact find_zero hj hb k
theorem findR_zero {x : Img} (k : Nat) {j : Nat} (hj : j < 16) (hb : (clsE x k).new.testBit j = false) : (findR x k)[j]? = some 0 := by
  unfold findR
  split
  · exact find_zero hj hb 16
  · have : ∀ j, j < 16 → z16[j]? = some 0 := by decide
    exact this j hj
theorem fillX_right {x : Img} (h : RightI x) (ho : x.Ok) (hx0 : (chkImg x).2 = 0) : RightI (fillX x) := by
  refine ⟨h.res, h.nt, h.task, h.nm, h.mode, by show (fillTo x x.edges.length).length ≤ 24; rw [fillTo_len]; exact h.ne, fun k hk => ?_⟩
  have hk' : k < x.edges.length := by
    have : (fillX x).edges.length = x.edges.length := fillTo_len x _
    omega
  have hg : (fillX x).edges[k] = fillEdge x k x.edges[k] := by
    have := fillTo_get x x.edges.length k hk'
    rw [if_pos hk'] at this
    have h2 := List.getElem?_eq_getElem (l := fillTo x x.edges.length) (show k < (fillTo x x.edges.length).length by rw [fillTo_len]; exact hk')
    rw [this] at h2
    exact (Option.some.inj h2).symm
  rw [hg]
  have he := h.edge k hk'
  have hf : (fillEdge x k x.edges[k]).frm = x.edges[k].frm ∧ (fillEdge x k x.edges[k]).to = x.edges[k].to ∧ (fillEdge x k x.edges[k]).prot = x.edges[k].prot ∧ (fillEdge x k x.edges[k]).mp = x.edges[k].mp := by
    unfold fillEdge
    split <;> exact ⟨rfl, rfl, rfl, rfl⟩
  obtain ⟨f1, f2, f3, f4⟩ := hf
  unfold edgOk at he ⊢
  rw [f1, f2, f3, f4]
  simp only [Bool.and_eq_true] at he ⊢
  obtain ⟨⟨⟨⟨⟨⟨a1, a2⟩, a3⟩, a4⟩, a5⟩, a6⟩, a7⟩ := he
  refine ⟨⟨⟨⟨⟨⟨a1, a2⟩, a3⟩, a4⟩, ?_⟩, a6⟩, ?_⟩
  · rw [List.all_eq_true] at a5 ⊢
    intro e hm
    obtain ⟨j, hj, rfl⟩ := List.getElem_of_mem hm
    have hj2 : j < k := by rw [List.length_take] at hj; omega
    have hj3 : j < x.edges.length := by omega
    have h5 := a5 (x.edges[j]) (by
      rw [List.mem_iff_getElem?]
      exact ⟨j, by rw [List.getElem?_take_of_lt hj2, List.getElem?_eq_getElem hj3]⟩)
    have hgj : ((fillX x).edges.take k)[j] = fillEdge x j x.edges[j] := by
      rw [List.getElem_take]
      have := fillTo_get x x.edges.length j hj3
      rw [if_pos hj3] at this
      have h2 := List.getElem?_eq_getElem (l := fillTo x x.edges.length) (show j < (fillTo x x.edges.length).length by rw [fillTo_len]; exact hj3)
      rw [this] at h2
      exact (Option.some.inj h2).symm
    rw [hgj]
    have hfj : (fillEdge x j x.edges[j]).frm = x.edges[j].frm ∧ (fillEdge x j x.edges[j]).to = x.edges[j].to := by
      unfold fillEdge
      split <;> exact ⟨rfl, rfl⟩
    rw [hfj.1, hfj.2]
    exact h5
  · by_cases hp : x.edges[k].prot = 3
    · have : fillEdge x k x.edges[k] = { x.edges[k] with offs := findR x k } := by unfold fillEdge; rw [if_pos hp]
      rw [this, hp]
      refine offs_all _ _ _ _ (fun j z hz => ?_)
      have hok := findR_ok (x := x) k
      have hj : j < 16 := by
        have := (List.getElem?_eq_some_iff.1 hz).1
        rw [hok.1] at this; exact this
      refine ⟨hok.2 _ (List.mem_of_getElem? hz), fun hne => ?_⟩
      rw [Nat.zero_add]
      obtain ⟨f, t, hE, hf, ht, hc, _⟩ := edge_w hx0 ho k hk'
      have hbit : (clsE x k).new.testBit j = true := by
        cases hb : (clsE x k).new.testBit j with
        | true => rfl
        | false =>
          have := findR_zero (x := x) k hj hb
          rw [hz] at this
          exact absurd (Option.some.inj this) hne
      rw [hc] at hbit
      have hn := clsOf_new hf ht (j : Int)
      rw [has10_nat (by omega), has10_nat (by omega), has10_nat (by omega), hbit] at hn
      have hn := hn.symm
      simp only [Bool.and_eq_true, Bool.not_eq_true'] at hn
      obtain ⟨a, b, ha, hb, ea, eb, rfl, rfl⟩ := hE.ex
      show (x.modes.getD x.edges[k].to.toNat ⟨0, []⟩).set.testBit j = true ∧ (x.modes.getD x.edges[k].frm.toNat ⟨0, []⟩).set.testBit j = false
      rw [ea, eb, Int.toNat_natCast, Int.toNat_natCast, List.getD_eq_getElem?_getD, List.getD_eq_getElem?_getD, List.getElem?_eq_getElem ha, List.getElem?_eq_getElem hb]
      exact hn
    · have : fillEdge x k x.edges[k] = x.edges[k] := by unfold fillEdge; rw [if_neg hp]
      rw [this]
      exact a7
theorem fillX_ok {x : Img} (ho : x.Ok) : (fillX x).Ok := by
  have key : ∀ e ∈ (fillX x).edges, e.offs.length = 16 ∧ e.mp.length = 4 := fun e he => by
    obtain ⟨j, hj, rfl⟩ := List.getElem_of_mem he
    have hj' : j < x.edges.length := by
      have : (fillX x).edges.length = x.edges.length := fillTo_len x _
      omega
    have h2 := List.getElem?_eq_getElem (l := fillTo x x.edges.length) (show j < (fillTo x x.edges.length).length by rw [fillTo_len]; exact hj')
    rw [fillTo_get x x.edges.length j hj', if_pos hj'] at h2
    have h3 : (fillX x).edges[j] = fillEdge x j x.edges[j] := (Option.some.inj h2).symm
    rw [h3]
    unfold fillEdge
    split
    · exact ⟨(findR_ok j).1, show x.edges[j].mp.length = 4 from ho.mp _ (List.getElem_mem hj')⟩
    · exact ⟨ho.offs _ (List.getElem_mem hj'), ho.mp _ (List.getElem_mem hj')⟩
  exact ⟨ho.lon, fun e he => (key e he).1, fun e he => (key e he).2, ho.set⟩
end Go.Proofs.YtggjhjbcdnffnaaDoor

namespace Go.Proofs.YtggjhjbcdnffnaaDoor
open Go.RowKit

theorem slice_edge20 : SliceOf Tryd.prog 24 67 23 184 := ⟨Tryd.underlying24, by kernel_rfl, by decide⟩
section
variable {w w' : World} {base size g n cap : Nat} {e : TypeId} {xs : List Value}
/-- The block of a row of the call's own. -/
theorem own_blk (h : w.ownsRow base e size (.slice (some ⟨g, 0, none⟩) n cap) n xs) : ∃ cur, Blk w g e cur ∧ base ≤ g ∧ (n ≤ cap ∧ cap ≤ maxLen ∧ cur.size = cap * size ∧ cur.toList.take (n * size) = xs) := by
  rcases h.2 with ⟨h1, _⟩ | ⟨g', cap', cur, hv, hb, hh, h1, h2, h3, h4⟩
  · cases h1
  · injection hv with e1 e2 e3
    injection e1 with e1
    injection e1 with e1
    subst e1 e3
    exact ⟨cur, hh, hb, h1, h2, h3, h4⟩
/-- Part of it is written over. -/
theorem own_splice {cur : Array Value} (h : w.ownsRow base e size (.slice (some ⟨g, 0, none⟩) n cap) n xs) (hbase : base ≤ g) (hc : n ≤ cap ∧ cap ≤ maxLen ∧ cur.size = cap * size ∧ cur.toList.take (n * size) = xs)
    {A O R O' : List Value} (hx : xs = A ++ (O ++ R)) (hl : O'.length = O.length) (hb : Blk w' g e (splice cur A.length O')) : w'.ownsRow base e size (.slice (some ⟨g, 0, none⟩) n cap) n (A ++ (O' ++ R)) := by
  obtain ⟨h1, h2, h3, h4⟩ := hc
  have hlen := h.1
  rw [hx] at hlen
  simp only [List.length_append] at hlen
  have hns : n * size ≤ cap * size := Nat.mul_le_mul_right _ h1
  refine ⟨by simp only [List.length_append]; omega, .inr ⟨g, cap, _, rfl, hbase, hb, h1, h2, by rw [splice_size]; exact h3, ?_⟩⟩
  have hcur : ∀ j, j < n * size → cur[j]? = xs[j]? := fun j hj => by
    rw [← h4, List.getElem?_take_of_lt hj]; simp
  apply List.ext_getElem?
  intro j
  rcases Nat.lt_or_ge j (n * size) with hj | hj
  · rw [List.getElem?_take_of_lt hj, Array.getElem?_toList, splice_get _ _ _ _ (by omega)]
    rcases Nat.lt_or_ge j A.length with g1 | g1
    · rw [if_neg (by omega), hcur j hj, hx, List.getElem?_append_left g1, List.getElem?_append_left g1]
    · rcases Nat.lt_or_ge j (A.length + O'.length) with g2 | g2
      · rw [if_pos ⟨g1, g2⟩, List.getElem?_append_right g1, List.getElem?_append_left (by omega)]
      · rw [if_neg (by omega), hcur j hj, hx, List.getElem?_append_right g1, List.getElem?_append_right g1, List.getElem?_append_right (by omega), List.getElem?_append_right (by omega), hl]
  · rw [List.getElem?_eq_none (by rw [List.length_take]; omega), List.getElem?_eq_none (by simp only [List.length_append]; omega)]
end
/-- An empty row, made by 'T{}'. -/
theorem own_emptyE (w : World) (e : TypeId) (size : Nat) : (w.alloc (.cells #[] e)).ownsRow w.heap.size e size (.slice (some ⟨w.heap.size, 0, none⟩) 0 0) 0 [] :=
  ⟨by simp, .inr ⟨w.heap.size, 0, #[], rfl, Nat.le_refl _, heap_alloc_new w _, Nat.le_refl _, by unfold maxLen; omega, by simp, by simp⟩⟩
section
variable {P : Program} {ops : Array Oper} {rest : List Oper} {o : Oper} {a : Act} {Q : Exit → Act → World → Prop} {w : World}
/-- One cell stored. -/
theorem wpList_store1E (hgd : o.guard = none) (ty : TypeId) (x y : Operand) (ho : o.op = .store ty x y) {b f : Nat} {u v : Value} (hx : a.eval x = .pointer (some ⟨b, f, none⟩)) (hy : a.eval y = v) (hz : (P.info? ty).map (·.size) = some 1) (hv : v.cells = #[v]) (h1 : v.oneCell' = true)
    (hc : w.cell? ⟨b, f, none⟩ = some u) (hf : w.frozen? ⟨b, f, none⟩ = false) (h : wpList P ops Q rest (a.put o.dst undef) (w.setCell ⟨b, f, none⟩ v)) : wpList P ops Q (o :: rest) a w := by
  have hst : (storeVar ty ⟨b, f, none⟩ v).run P w = .ok () (w.setCell ⟨b, f, none⟩ v) := by
    cases hq : P.info? ty with
    | none => simp [hq] at hz
    | some i =>
      have hs : i.size = 1 := by simpa [hq] using hz
      have hst1 : (store (⟨b, f, none⟩ : Addr) v).run P w = .ok () (w.setCell ⟨b, f, none⟩ v) := by
        rw [run_store P w _ v _ h1, hc, hf]; rfl
      have e0 : (⟨b, f, none⟩ : Addr).add 0 = ⟨b, f, none⟩ := by simp [Addr.add]
      simp [storeVar, Sem.run_bind, sizeOf, typeInfo, hq, hs, hv, storeCells, e0, hst1, Result.andThen]
  refine wpList_plain hgd fun K hK => ?_
  unfold Oper.wp execOp
  simp only [ho, hx, hy, Instr.storeAt, Instr.sureAddr, Sem.run_bind, Sem.run_pure, Result.andThen_ok, hst]
  exact hK _ _ h
end
/-- Three results, the first one in cells. -/
theorem results_cell_tmp2 {P : Program} {w : World} {fn : Func} {p q r : Tmp} {ty : TypeId} (h : fn.results = #[.cell p ty, .tmp q, .tmp r]) (tmps : Array Value) {g t : Nat} {vs : List Value} {v u : Value} (hp : tmps.getD p undef = .pointer (some ⟨g, 0, none⟩)) (hq : tmps.getD q undef = v) (hr : tmps.getD r undef = u)
    (hb : Blk w g t vs.toArray) (hA : AggOf P ty vs.length) : (results fn tmps).run P w = .ok (.tuple #[.agg vs.toArray, v, u]) w := by
  have hp' : tmps[p]?.getD undef = .pointer (some ⟨g, 0, none⟩) := by simpa using hp
  have hq' : tmps[q]?.getD undef = v := by simpa using hq
  have hr' : tmps[r]?.getD undef = u := by simpa using hr
  have hc : CellsAt w g 0 vs := fun j u hu => by rw [Nat.zero_add, hb.cell]; simpa using hu
  simp [results, h, hp', hq', hr', asAddr, run_loadVar_agg hA hc]
theorem fm_append (l m : List Edg) : (l ++ m).flatMap edgCells = l.flatMap edgCells ++ m.flatMap edgCells := List.flatMap_append
theorem edges_one (l : List Edg) : ∀ u ∈ l.flatMap edgCells, u.oneCell' = true := fun u hu => by
  obtain ⟨e, _, he⟩ := List.mem_flatMap.1 hu
  exact iv_one _ u he
theorem edges_flat_len {l : List Edg} (h : ∀ e ∈ l, e.offs.length = 16 ∧ e.mp.length = 4) : (l.flatMap edgCells).length = l.length * 23 := by
  induction l with
  | nil => rfl
  | cons e l ih =>
    obtain ⟨h1, h2⟩ := h e (by simp)
    rw [List.flatMap_cons, List.length_append, edgCells_len h1 h2, ih (fun a ha => h a (by simp [ha])), List.length_cons]
    omega
/-- An edge's cells with other offsets. -/
theorem edge_split (e : Edg) : edgCells e = iv [e.frm, e.to, e.prot] ++ (iv e.offs ++ iv e.mp) := by
  unfold edgCells edgInts iv
  simp
theorem fillTo_lens {x : Img} (ho : ∀ e ∈ x.edges, e.offs.length = 16 ∧ e.mp.length = 4) (k : Nat) : ∀ e ∈ fillTo x k, e.offs.length = 16 ∧ e.mp.length = 4 := fun e he => by
  obtain ⟨j, hj, rfl⟩ := List.getElem_of_mem he
  have hj' : j < x.edges.length := by rw [fillTo_len] at hj; exact hj
  have h2 := List.getElem?_eq_getElem (l := fillTo x k) hj
  rw [fillTo_get x k j hj'] at h2
  have h3 := (Option.some.inj h2).symm
  rw [h3]
  have h0 := ho _ (List.getElem_mem hj')
  split
  · unfold fillEdge
    split
    · exact ⟨(findR_ok j).1, h0.2⟩
    · exact h0
  · exact h0
set_option maxRecDepth 100000 in
set_option maxHeartbeats 4000000 in
theorem fill_any (v : ImgV) (x : Img) (w : World) (hTb : Tab w) (h : ImgAt w v x) (hx0 : (chkImg x).2 = 0) :
    Calls Tryd.prog 29 #[.agg (imgCells v x).toArray] w fun e w' =>
      ((∀ j, j < x.edges.length → goodF x j = true) ∧ ∃ A c, e = .returned (.tuple #[.agg (imgCells { v with ea := A, ec := c } (fillX x)).toArray, .int .i64 0, .bool true]) ∧ ImgAt w' { v with ea := A, ec := c } (fillX x) ∧ Keep [] w w') ∨
      (∃ j : Nat, (j < x.edges.length ∧ goodF x j = false ∧ ∀ i, i < j → goodF x i = true) ∧ e = .returned (.tuple #[.agg #[.int .i64 0, .slice none 0 0, .slice none 0 0, .slice none 0 0], .int .i64 (j : Int), .bool false]) ∧ Keep [] w w') := by
  obtain ⟨W0, hW0⟩ : ∃ W0, (w.alloc (.cells (imgCells v x).toArray 26)).alloc (.cells #[.int .i64 0, .slice none 0 0, .slice none 0 0, .slice none 0 0] 26) = W0 := ⟨_, rfl⟩
  have b0 : Blk W0 w.heap.size 26 (imgCells v x).toArray := by rw [← hW0]; exact (img_box w v x).alloc _
  have b1 : Blk W0 (w.heap.size + 1) 26 #[.int .i64 0, .slice none 0 0, .slice none 0 0, .slice none 0 0] := by rw [← hW0]; exact Blk.new1 _ _ _ _
  have K0 : Keep [] w W0 := by rw [← hW0]; exact ((Keep.refl [] w).alloc _).alloc _
  have hz0 : W0.heap.size = w.heap.size + 2 := by rw [← hW0]; simp
  have HZ0 := Lib.hid hz0
  have c3 : W0.cell? ⟨w.heap.size, 3, none⟩ = some (.slice v.ea x.edges.length v.ec) := by rw [b0.cell]; rfl
  have hR := right_of hx0
  have hne := hR.ne
  have hprots : ∀ k, (hk : k < x.edges.length) → 1 ≤ x.edges[k].prot ∧ x.edges[k].prot ≤ 3 := fun k hk => (hR.edgeIn k hk).2.2
  have HFi := fun (k : Nat) (hk : k < x.edges.length) w' hkk => Lib.hid (find_any v x k w' (hTb.keep0 (w' := w') hkk) (h.keep0 hkk) (edW_of hx0 h.ok hk))
  have HFX := Lib.hid (fillX_ok h.ok)
  have HI := Lib.hid h
  have HW := Lib.hid hW0
  have B0 := Lib.hid b0
  have B1 := Lib.hid b1
  have HIC : Hid ((imgCells v x).length = 4) := show _ = _ from rfl
  have hone : Hid (∀ u ∈ x.edges.flatMap edgCells, u.oneCell' = true) := edges_one x.edges
  have HOS : Hid (∀ e ∈ x.edges, e.offs.length = 16 ∧ e.mp.length = 4) := fun e he => ⟨h.ok.offs e he, h.ok.mp e he⟩
  clear hW0 b0 b1 hTb hR hz0
  generalize hil : imgCells v x = il at *
  have HIL := Lib.hid hil
  clear hil
  go_enter Tryd.func29, Tryd.ntmps29
  go_wp2_with (rw [HW.out])
  go_step3
  go_wp2_with (refine stop_at 11 rfl ?_)
  constructor
  refine wpList_append_reads rfl (.const (.slice none 0 0)) (.tmp 10) 24 rfl slice_edge20 (World.ownsRow_nil W0 W0.heap.size _ _) rfl (HI.out.edges.keep0 K0) rfl hone.out (Nat.le_refl _) (by omega) (by unfold maxLen; omega) ?_
  intro v5 w5 o5 k5 _
  rw [Nat.zero_add, List.nil_append] at o5
  have k5 : Keep [] W0 w5 := k5
  obtain ⟨A, cp, rfl⟩ := own_shape o5
  have HK5 := Lib.hid k5
  have O5 := Lib.hid o5
  clear o5 k5 c3
  go_wp2
  rcases Nat.eq_zero_or_pos x.edges.length with hn0 | hn0
  · have HN0 := Lib.hid hn0
    go_step3
    go_wp2
    go_loopw [14] (fun i wr => ∃ k : Nat, k ≤ x.edges.length ∧ i = .int .i64 k ∧ wr = w5) (fun i _ => x.edges.length - (intOf i).toNat)
    case atStart => exact ⟨0, Nat.zero_le _, rfl, rfl⟩
    case round =>
      obtain ⟨k, hk, rfl, rfl⟩ := hrel
      obtain rfl : k = x.edges.length := by have := HN0.out; omega
      have p2 : decide ((x.edges.length : Int) < (x.edges.length : Int)) = false := by simp
      have hrow : wr.ownsRow W0.heap.size 67 23 (.slice A x.edges.length cp) x.edges.length ((fillTo x x.edges.length).flatMap edgCells) := by
        have := O5.out
        rw [← fillTo_zero x] at this
        rw [← show fillTo x 0 = fillTo x x.edges.length by rw [HN0.out]]
        have h2 := fillTo_len x 0
        rw [h2] at this
        exact this
      have KWr := HK5.out
      have hlenF := fillTo_len x x.edges.length
      have O9 := Lib.hid hrow
      have bb := B0.out.keep KWr (by have h1 := HZ0.out; first | (simp; done) | (have h2 := HBG.out; simp; omega))
      have D9 := bb.set_ 3 (.slice A x.edges.length cp)
      have hcells : il.toArray.setIfInBounds 3 (.slice A x.edges.length cp) = (imgCells { v with ea := A, ec := cp } (fillX x)).toArray := by
        rw [← HIL.out]
        show _ = #[Value.int .i64 x.res, .slice v.ta x.tasks.length v.tc, .slice v.ma x.modes.length v.mc, .slice A (fillTo x x.edges.length).length cp].toList.toArray
        rw [hlenF]; rfl
      rw [hcells] at D9
      have ce := bb.cell 3
      have fe := bb.frozen 3
      have ce : wr.cell? ⟨w.heap.size, 3, none⟩ = some (.slice v.ea x.edges.length v.ec) := by rw [ce, ← HIL.out]; rfl
      have KS : Keep [] W0 (wr.setCell ⟨w.heap.size, 3, none⟩ (.slice A x.edges.length cp)) → True := fun _ => trivial
      have KF : Keep [] w (wr.setCell ⟨w.heap.size, 3, none⟩ (.slice A x.edges.length cp)) := (K0.trans KWr (fun y hy hlt => by have h1 := HZ0.out; first | (exfalso; simp at hy; done) | (have h2 := HBG.out; simp at hy; omega))).trans (keep_set _ _ _ _) (fun y hy hlt => by simp at hy; omega)
      have O10 := own_keep hrow (keep_set wr w.heap.size 3 (.slice A x.edges.length cp)) (fun y hy hm => by
        have h1 := (hrow.lt y (by simpa using hy)).1
        have := HZ0.out
        simp at hm; omega)
      have D1 := (B1.out.keep KWr (by have h1 := HZ0.out; first | (simp; done) | (have h2 := HBG.out; simp; omega))).keep (keep_set wr w.heap.size 3 (.slice A x.edges.length cp)) (by simp)
      go_wp2_with (refine stop_store 24 (.tmp 40) (.tmp 39) rfl ?_)
      constructor
      refine wpList_store1E rfl 24 (.tmp 40) (.tmp 39) rfl (v := .slice A x.edges.length cp) rfl rfl (by kernel_rfl) rfl rfl ce fe ?_
      generalize wr.setCell ⟨w.heap.size, 3, none⟩ (.slice A x.edges.length cp) = wq at *
      have HC9 := Lib.hid D9.cellsAt
      have HO10 := Lib.hid O10
      have HKF := Lib.hid KF
      have HD1 := Lib.hid D1
      have HL4 : Hid ((imgCells { v with ea := A, ec := cp } (fillX x)).length = 4) := show _ = _ from rfl
      have hone4 : Hid (∀ u ∈ imgCells { v with ea := A, ec := cp } (fillX x), u.oneCell' = true) := fun u hu => by simp only [imgCells, List.mem_cons, List.not_mem_nil, or_false] at hu; rcases hu with rfl | rfl | rfl | rfl <;> rfl
      clear D9 KF D1 O10 ce fe hrow O9 hcells bb KS
      generalize himg : imgCells { v with ea := A, ec := cp } (fillX x) = ic at *
      have HIMG := Lib.hid himg
      clear himg
      go_wp2_with (first
        | (refine wpList_load_agg rfl 26 (.tmp 1) rfl rfl (cs := ic) (by rw [HL4.out]; exact agg_image) HC9.out ?_)
        | refine stop_store 26 (.tmp 2) (.tmp 41) rfl ?_)
      constructor
      refine wpList_store_all rfl 26 (.tmp 2) (.tmp 41) rfl rfl rfl (vs := ic) (by rw [HL4.out]; exact agg_image.2) HD1.out hone4.out ?_ ?_
      · rw [HL4.out]; rfl
      intro wz dz kz
      have KFz : Keep [] w wz := HKF.out.trans kz (fun y hy hlt => by simp at hy; omega)
      have Oz := own_keep HO10.out kz (fun y hy hm => by
        have h1 := (HO10.out.lt y (by simpa using hy)).1
        have := HZ0.out
        simp at hm; omega)
      have HIZ : ImgAt wz { v with ea := A, ec := cp } (fillX x) := by
        have h' := HI.out.keep0 KFz
        refine ⟨HFX.out, h'.ql, h'.tasks, h'.modes, ?_, h'.queues, h'.lt, h'.lm, ?_, h'.lq⟩
        · have := Reads.of_own Oz
          show Reads wz 23 A (fillTo x x.edges.length).length ((fillTo x x.edges.length).flatMap edgCells)
          rw [hlenF]
          exact this
        · show (fillTo x x.edges.length).length ≤ maxLen
          rw [hlenF]; unfold maxLen; omega
      have HIZZ := Lib.hid HIZ
      have HKZ := Lib.hid KFz
      clear HIZ KFz Oz
      go_wp2
      rw [Exit.noGoto_ret]
      refine bodyPost_ret (results_cell_tmp2 rfl _ rfl rfl rfl dz (by rw [HL4.out]; exact agg_image)) rfl ?_
      exact .inl ⟨fun j hj => by have := HN0.out; omega, _, _, by rw [HIMG.out]; rfl, HIZZ.out, HKZ.out⟩
  · obtain ⟨g, cap, hv, hBg, hgl⟩ := O5.out.form hn0
    injection hv with hA hB hC
    subst hA hC
    have HN0 := Lib.hid hn0
    have HBG := Lib.hid hBg
    clear hB hn0 hBg
    go_step3
    go_wp2
    go_loopw [14] (fun i wr => ∃ k : Nat, k ≤ x.edges.length ∧ i = .int .i64 k ∧ (∀ j, j < k → goodF x j = true) ∧ wr.ownsRow W0.heap.size 67 23 (.slice (some ⟨g, 0, none⟩) x.edges.length cp) x.edges.length ((fillTo x k).flatMap edgCells) ∧ Keep [g] w5 wr) (fun i _ => x.edges.length - (intOf i).toNat)
    case atStart => exact ⟨0, Nat.zero_le _, rfl, fun j hj => by omega, by rw [fillTo_zero]; exact O5.out, Keep.refl _ _⟩
    case round =>
      obtain ⟨k, hk, rfl, hgood, hrow, hK⟩ := hrel
      have KWr : Keep [g] W0 wr := (HK5.out.mono (by simp)).trans hK (fun y hy _ => hy)
      by_cases hlt : k < x.edges.length
      · have p0 : (0 : Int) ≤ (k : Int) := by omega
        have p1 : (k : Int) < (x.edges.length : Int) := by omega
        have p2 : decide ((k : Int) < (x.edges.length : Int)) = true := decide_eq_true p1
        have hgk := fillTo_get x k k hlt
        rw [if_neg (by omega)] at hgk
        obtain ⟨b, o', hA', hbw, hcs⟩ := (Reads.of_own hrow).elems (fillTo_len x k) (fun e he => edgCells_len (fillTo_lens HOS.out k e he).1 (fillTo_lens HOS.out k e he).2) HN0.out
        injection hA' with hA'
        injection hA' with hb' ho'
        subst hb' ho'
        have hkl : k < (fillTo x k).length := by rw [fillTo_len]; exact hlt
        have hct := hcs k hkl
        have hge : (fillTo x k)[k] = x.edges[k] := by
          have h2 := List.getElem?_eq_getElem (l := fillTo x k) hkl
          rw [hgk] at h2
          exact (Option.some.inj h2).symm
        rw [hge] at hct
        have cp2 : wr.cell? ⟨g, 0 + k * 23 + 2, none⟩ = some (.int .i64 x.edges[k].prot) := hct 2 _ rfl
        rw [Nat.zero_add] at cp2
        have HRow := Lib.hid hrow
        have HK := Lib.hid hK
        have HKWr := Lib.hid KWr
        have HGd := Lib.hid hgood
        have hKww : Keep [] w wr := K0.trans KWr (fun y hy hlt => by have h1 := HZ0.out; have h2 := HBG.out; simp at hy; omega)
        have HKww := Lib.hid hKww
        have hgF : goodF x k = (!decide (x.edges[k].prot = 3) || findB x k) := by unfold goodF; rw [List.getElem?_eq_getElem hlt]
        clear hcs hct hge hgk hrow hK KWr hgood hKww hbw
        by_cases hp : x.edges[k].prot = 3
        · have hpn : ((x.edges[k].prot) != 3) = false := by simp [hp]
          obtain ⟨EA, EB, hs1, hs2, hsl⟩ := fillTo_split x k hlt hp
          have hFk := HFi k hlt wr HKww.out
          have hcI := Lib.hid (B0.out.keep HKWr.out (by have h1 := HZ0.out; have h2 := HBG.out; simp; omega))
          have hcIc : Hid (CellsAt wr w.heap.size 0 il) := hcI.out.cellsAt
          have hfr := findR_ok (x := x) k
          have HFR : Hid ((iv (findR x k)).length = 16) := by show _ = _; rw [iv_len]; exact hfr.1
          have honeF : Hid (∀ u ∈ iv (findR x k), u.oneCell' = true) := iv_one _
          have hgF2 : goodF x k = findB x k := by rw [hgF, decide_eq_true hp]; rfl
          have hflat : (fillTo x k).flatMap edgCells = (EA.flatMap edgCells ++ iv [x.edges[k].frm, x.edges[k].to, x.edges[k].prot]) ++ (iv x.edges[k].offs ++ (iv x.edges[k].mp ++ EB.flatMap edgCells)) := by
            rw [hs1, fm_append, List.flatMap_cons, edge_split]; simp
          have hflat2 : (fillTo x (k + 1)).flatMap edgCells = (EA.flatMap edgCells ++ iv [x.edges[k].frm, x.edges[k].to, x.edges[k].prot]) ++ (iv (findR x k) ++ (iv x.edges[k].mp ++ EB.flatMap edgCells)) := by
            rw [hs2, fm_append, List.flatMap_cons, edge_split]; simp
          have hEAl : (EA.flatMap edgCells ++ iv [x.edges[k].frm, x.edges[k].to, x.edges[k].prot]).length = k * 23 + 3 := by
            have : (EA.flatMap edgCells).length = EA.length * 23 := edges_flat_len (fun e he => fillTo_lens HOS.out k e (by rw [hs1]; simp [he]))
            rw [List.length_append, this, hsl]; rfl
          have hofl : (iv (findR x k)).length = (iv x.edges[k].offs).length := by rw [iv_len, iv_len, hfr.1, (HOS.out _ (List.getElem_mem hlt)).1]
          have HFL := Lib.hid hflat
          have HFL2 := Lib.hid hflat2
          have HEA := Lib.hid hEAl
          have HOF := Lib.hid hofl
          clear hs1 hs2 hsl hflat hflat2 hEAl hofl hfr hgF
          generalize hfc : iv (findR x k) = fc at *
          have HFC := Lib.hid hfc
          clear hfc
          have HGF := Lib.hid hgF2
          clear hgF2
          generalize hfb : findB x k = fb at *
          have HFB := Lib.hid hfb
          clear hfb
          go_wp2_with (refine wpList_load_agg rfl 26 (.tmp 1) rfl rfl (cs := il) (by rw [HIC.out]; exact agg_image) hcIc.out ?_)
          refine hFk.out.mono ?_
          rintro e w8 ⟨rfl, k8⟩
          have HK8 := Lib.hid k8
          clear k8 hFk hcIc hcI
          go_wp2_with (refine stop_store 27 (.tmp 7) (.tmp 27) rfl ?_)
          constructor
          refine wpList_store_all rfl 27 (.tmp 7) (.tmp 27) rfl rfl rfl (vs := fc) (by rw [HFR.out]; exact agg_offs.2) (Blk.new _ _ _) honeF.out ?_ ?_
          · rw [HFR.out]; rfl
          intro w9 d9 k9
          have k89 : Keep [] w8 w9 := ((Keep.refl [] w8).alloc _).trans k9 (fun y hy hlt => by simp at hy; omega)
          have HK9 := Lib.hid (HK8.out.then k89)
          have D9 := Lib.hid d9
          clear k9 k89 d9
          have HRow9 := Lib.hid (own_keep0 HRow.out HK9.out)
          have HKw9 := Lib.hid (HKww.out.then HK9.out)
          cases fb with
          | false =>
            have d1 := (B1.out.keep HKWr.out (by have h1 := HZ0.out; have h2 := HBG.out; simp; omega)).keep0 HK9.out
            have D1 := Lib.hid d1
            clear d1
            go_wp2_with (refine stop_store 26 (.tmp 2) (.tmp 31) rfl ?_)
            constructor
            refine wpList_store_all rfl 26 (.tmp 2) (.tmp 31) rfl rfl rfl (vs := [.int .i64 0, .slice none 0 0, .slice none 0 0, .slice none 0 0]) (by kernel_rfl) D1.out (by intro u hu; simp only [List.mem_cons, List.not_mem_nil, or_false] at hu; rcases hu with rfl | rfl | rfl | rfl <;> rfl) ?_ ?_
            · rfl
            intro wz dz kz
            have KFz := Lib.hid (HKw9.out.trans kz (fun y hy hlt => by simp at hy; omega))
            have HGG : goodF x k = false := by rw [HGF.out]
            have HGK := Lib.hid HGG
            clear HGG kz
            go_wp2
            rw [Exit.noGoto_ret]
            refine bodyPost_ret (results_cell_tmp2 rfl _ rfl rfl rfl dz agg_image) rfl ?_
            exact .inr ⟨k, ⟨hlt, HGK.out, HGd.out⟩, rfl, KFz.out⟩
          | true =>
            have hcD := Lib.hid D9.out.cellsAt
            obtain ⟨cur, hcur, hbg, hparts⟩ := own_blk HRow9.out
            have HCUR := Lib.hid hcur
            have HPT := Lib.hid hparts
            have HBB := Lib.hid hbg
            have hsz : k * 23 + 3 + 16 ≤ cur.size := by
              have := HRow9.out.1
              obtain ⟨q1, q2, q3, q4⟩ := hparts
              have h2 : x.edges.length * 23 ≤ cp * 23 := Nat.mul_le_mul_right _ q1
              omega
            have HSZ := Lib.hid hsz
            clear hcur hparts hbg hsz
            go_wp2_with (first
              | (refine wpList_load_agg rfl 27 (.tmp 7) rfl rfl (cs := fc) (by rw [HFR.out]; exact agg_offs) hcD.out ?_)
              | refine stop_store 27 (.tmp 37) (.tmp 35) rfl ?_)
            constructor
            refine wpList_store_agg rfl 27 (.tmp 37) (.tmp 35) rfl (f := k * 23 + 3) rfl rfl (vs := fc) (by rw [HFR.out]; exact agg_offs.2) HCUR.out honeF.out (by rw [HFR.out]; exact HSZ.out) ?_
            intro wz dz kz
            rw [← HEA.out] at dz
            have orow := own_splice HRow9.out HBB.out HPT.out HFL.out HOF.out dz
            rw [← HFL2.out] at orow
            have HOR := Lib.hid orow
            have HKZ := Lib.hid ((HK.out.then HK9.out).trans kz (fun y hy _ => hy))
            have HGK : Hid (∀ j, j < k + 1 → goodF x j = true) := fun j hj => by
              rcases Nat.lt_or_ge j k with h1 | h1
              · exact HGd.out j h1
              · obtain rfl : j = k := by omega
                rw [HGF.out]
            clear orow dz kz
            go_wp2
            go_roundw
            case rel => exact ⟨k + 1, by omega, by go_num, HGK.out, HOR.out, HKZ.out⟩
            case measure => simp [intOf] <;> omega
        · have hpn : ((x.edges[k].prot) != 3) = true := by simpa using hp
          have hsk := fillTo_skip x k hlt hp
          have HGK : Hid (∀ j, j < k + 1 → goodF x j = true) := fun j hj => by
            rcases Nat.lt_or_ge j k with h1 | h1
            · exact HGd.out j h1
            · obtain rfl : j = k := by omega
              rw [hgF, decide_eq_false hp]; rfl
          have HSK := Lib.hid hsk
          clear hsk hgF
          go_wp2
          go_roundw
          case rel => exact ⟨k + 1, by omega, by go_num, HGK.out, by rw [HSK.out]; exact HRow.out, HK.out⟩
          case measure => simp [intOf] <;> omega
      · obtain rfl : k = x.edges.length := by omega
        have p2 : decide ((x.edges.length : Int) < (x.edges.length : Int)) = false := by simp
        have hlenF := fillTo_len x x.edges.length
        have O9 := Lib.hid hrow
        have bb := B0.out.keep KWr (by have h1 := HZ0.out; first | (simp; done) | (have h2 := HBG.out; simp; omega))
        have D9 := bb.set_ 3 (.slice (some ⟨g, 0, none⟩) x.edges.length cp)
        have hcells : il.toArray.setIfInBounds 3 (.slice (some ⟨g, 0, none⟩) x.edges.length cp) = (imgCells { v with ea := (some ⟨g, 0, none⟩), ec := cp } (fillX x)).toArray := by
          rw [← HIL.out]
          show _ = #[Value.int .i64 x.res, .slice v.ta x.tasks.length v.tc, .slice v.ma x.modes.length v.mc, .slice (some ⟨g, 0, none⟩) (fillTo x x.edges.length).length cp].toList.toArray
          rw [hlenF]; rfl
        rw [hcells] at D9
        have ce := bb.cell 3
        have fe := bb.frozen 3
        have ce : wr.cell? ⟨w.heap.size, 3, none⟩ = some (.slice v.ea x.edges.length v.ec) := by rw [ce, ← HIL.out]; rfl
        have KS : Keep [g] W0 (wr.setCell ⟨w.heap.size, 3, none⟩ (.slice (some ⟨g, 0, none⟩) x.edges.length cp)) → True := fun _ => trivial
        have KF : Keep [] w (wr.setCell ⟨w.heap.size, 3, none⟩ (.slice (some ⟨g, 0, none⟩) x.edges.length cp)) := (K0.trans KWr (fun y hy hlt => by have h1 := HZ0.out; first | (exfalso; simp at hy; done) | (have h2 := HBG.out; simp at hy; omega))).trans (keep_set _ _ _ _) (fun y hy hlt => by simp at hy; omega)
        have O10 := own_keep hrow (keep_set wr w.heap.size 3 (.slice (some ⟨g, 0, none⟩) x.edges.length cp)) (fun y hy hm => by
          have h1 := (hrow.lt y (by simpa using hy)).1
          have := HZ0.out
          simp at hm; omega)
        have D1 := (B1.out.keep KWr (by have h1 := HZ0.out; first | (simp; done) | (have h2 := HBG.out; simp; omega))).keep (keep_set wr w.heap.size 3 (.slice (some ⟨g, 0, none⟩) x.edges.length cp)) (by simp)
        go_wp2_with (refine stop_store 24 (.tmp 40) (.tmp 39) rfl ?_)
        constructor
        refine wpList_store1E rfl 24 (.tmp 40) (.tmp 39) rfl (v := .slice (some ⟨g, 0, none⟩) x.edges.length cp) rfl rfl (by kernel_rfl) rfl rfl ce fe ?_
        generalize wr.setCell ⟨w.heap.size, 3, none⟩ (.slice (some ⟨g, 0, none⟩) x.edges.length cp) = wq at *
        have HC9 := Lib.hid D9.cellsAt
        have HO10 := Lib.hid O10
        have HKF := Lib.hid KF
        have HD1 := Lib.hid D1
        have HL4 : Hid ((imgCells { v with ea := (some ⟨g, 0, none⟩), ec := cp } (fillX x)).length = 4) := show _ = _ from rfl
        have hone4 : Hid (∀ u ∈ imgCells { v with ea := (some ⟨g, 0, none⟩), ec := cp } (fillX x), u.oneCell' = true) := fun u hu => by simp only [imgCells, List.mem_cons, List.not_mem_nil, or_false] at hu; rcases hu with rfl | rfl | rfl | rfl <;> rfl
        clear D9 KF D1 O10 ce fe hrow O9 hcells bb KS
        generalize himg : imgCells { v with ea := (some ⟨g, 0, none⟩), ec := cp } (fillX x) = ic at *
        have HIMG := Lib.hid himg
        clear himg
        go_wp2_with (first
          | (refine wpList_load_agg rfl 26 (.tmp 1) rfl rfl (cs := ic) (by rw [HL4.out]; exact agg_image) HC9.out ?_)
          | refine stop_store 26 (.tmp 2) (.tmp 41) rfl ?_)
        constructor
        refine wpList_store_all rfl 26 (.tmp 2) (.tmp 41) rfl rfl rfl (vs := ic) (by rw [HL4.out]; exact agg_image.2) HD1.out hone4.out ?_ ?_
        · rw [HL4.out]; rfl
        intro wz dz kz
        have KFz : Keep [] w wz := HKF.out.trans kz (fun y hy hlt => by simp at hy; omega)
        have Oz := own_keep HO10.out kz (fun y hy hm => by
          have h1 := (HO10.out.lt y (by simpa using hy)).1
          have := HZ0.out
          simp at hm; omega)
        have HIZ : ImgAt wz { v with ea := (some ⟨g, 0, none⟩), ec := cp } (fillX x) := by
          have h' := HI.out.keep0 KFz
          refine ⟨HFX.out, h'.ql, h'.tasks, h'.modes, ?_, h'.queues, h'.lt, h'.lm, ?_, h'.lq⟩
          · have := Reads.of_own Oz
            show Reads wz 23 (some ⟨g, 0, none⟩) (fillTo x x.edges.length).length ((fillTo x x.edges.length).flatMap edgCells)
            rw [hlenF]
            exact this
          · show (fillTo x x.edges.length).length ≤ maxLen
            rw [hlenF]; unfold maxLen; omega
        have HIZZ := Lib.hid HIZ
        have HKZ := Lib.hid KFz
        clear HIZ KFz Oz
        go_wp2
        rw [Exit.noGoto_ret]
        refine bodyPost_ret (results_cell_tmp2 rfl _ rfl rfl rfl dz (by rw [HL4.out]; exact agg_image)) rfl ?_
        exact .inl ⟨hgood, _, _, by rw [HIMG.out]; rfl, HIZZ.out, HKZ.out⟩
end Go.Proofs.YtggjhjbcdnffnaaDoor
