/- Which timers are due at a tick: plain. What is new comes from its offset on (shift); walked. Condition: an edge of an admitted image. A tick of an engine; walked. Condition: an admitted image; both engines tell the same ahead of it. -/
import Derived.Test.YteflgdnekflbbaaDoorChQ
import Derived.Test.YteflgdnekflbbaaDoorEngH
import Derived.Test.YteflgdnekflbbaaDoorChA
import Derived.Deep.CutBlock
namespace Go.Proofs.YteflgdnekflbbaaDoor

theorem pop_one (i r : Nat) : (popR [(i, r)]).1 = (if r = 1 then [i] else []) ∧ (r = 1 → (popR [(i, r)]).2 = []) := by
  by_cases h : r = 1
  · subst h; exact ⟨rfl, fun _ => rfl⟩
  · refine ⟨?_, fun e => absurd e h⟩
    rw [if_neg h]
    unfold popR
    rw [if_neg h]
/-- Only the last one that is due has a mode come, or a change be over; nothing is left then. -/
theorem tick_pre {X : ChX} (g : ChG X) {s : EnS} {d : DcS} (h : RelE X s d) : ∃ l1 fin, (popR s.tm).1 = l1 ++ fin ∧ (∀ i ∈ l1, i < 16) ∧ (fin = [] ∨ ((fin = [16] ∨ fin = [17]) ∧ (popR s.tm).2 = [] ∧ ∃ k, s.edge = some k ∧ k < X.x.edges.length)) := by
  have ht := h.tm
  unfold TmRel at ht
  cases he : s.edge with
  | none =>
    rw [he] at ht
    rw [ht.2.2]
    exact ⟨[], [], rfl, fun i hi => (by cases hi), .inl rfl⟩
  | some k =>
    rw [he] at ht
    obtain ⟨hk, ⟨_, _, _, e⟩ | ⟨_, _, _, _, _, e⟩ | ⟨_, _, _, h1, h2, h3, L, e, hL⟩ | ⟨_, _, _, _, e⟩⟩ := ht
    · rw [e]
      exact ⟨[], [], rfl, fun i hi => (by cases hi), .inl rfl⟩
    · rw [e]
      obtain ⟨q1, q2⟩ := pop_one 16 (d.due - s.now)
      refine ⟨[], _, (List.nil_append _).symm, fun i hi => (by cases hi), ?_⟩
      rw [q1]
      by_cases hr : d.due - s.now = 1
      · rw [if_pos hr]
        exact .inr ⟨.inl rfl, q2 hr, k, rfl, hk⟩
      · rw [if_neg hr]; exact .inl rfl
    · rw [e]
      have hs : SortT (L ++ [(16, d.due - s.now)]) := by
        refine List.pairwise_append.2 ⟨hL.sort, List.pairwise_singleton _ _, fun p hp q hq => ?_⟩
        simp at hq
        subst hq
        have := (hL.pos p hp).2
        show p.2 ≤ d.due - s.now
        omega
      have h0 : ∀ p ∈ L ++ [(16, d.due - s.now)], 0 < p.2 := fun p hp => by
        rcases List.mem_append.1 hp with hp | hp
        · exact (hL.pos p hp).1
        · simp at hp; subst hp; show 0 < d.due - s.now; omega
      rw [popR_sort hs h0]
      refine ⟨(L.filter (fun p => p.2 = 1)).map Prod.fst, ([(16, d.due - s.now)].filter (fun p => p.2 = 1)).map Prod.fst, ?_, fun i hi => ?_, ?_⟩
      · rw [List.filter_append, List.map_append]
      · obtain ⟨p, hp, rfl⟩ := List.mem_map.1 hi
        have hp := (List.mem_filter.1 hp).1
        exact g.n16 k p.1 ((hL.mem p.1 p.2).1 hp).1
      · by_cases hr : d.due - s.now = 1
        · refine .inr ⟨.inl (by simp [hr]), ?_, k, rfl, hk⟩
          show lessT _ = []
          rw [List.filter_eq_nil_iff.2 (fun p hp => ?_)]
          · rfl
          · rcases List.mem_append.1 hp with hp | hp
            · have := hL.pos p hp
              have : p.2 = 1 := by omega
              simp [this]
            · simp at hp; subst hp; simp [hr]
        · exact .inl (by simp [hr])
    · rw [e]
      obtain ⟨q1, q2⟩ := pop_one 17 (d.due - s.now)
      refine ⟨[], _, (List.nil_append _).symm, fun i hi => (by cases hi), ?_⟩
      rw [q1]
      by_cases hr : d.due - s.now = 1
      · rw [if_pos hr]
        exact .inr ⟨.inr rfl, q2 hr, k, rfl, hk⟩
      · rw [if_neg hr]; exact .inl rfl
end Go.Proofs.YteflgdnekflbbaaDoor

namespace Go.Proofs.YteflgdnekflbbaaDoor
open Go.RowKit
attribute [local go_sem] Oper.semAt_some

theorem TmAt.map {w w' : World} (H : ∀ y t cs, Blk w y t cs → Blk w' y t cs) : ∀ {A : Option Addr} {bs : List Nat} {l : List (Nat × Nat)}, TmAt w A bs l → TmAt w' A bs l
  | _, [], [], h => h
  | _, [], _ :: _, h => h.elim
  | _, _ :: _, [], h => h.elim
  | _, b :: bs, p :: l, h => by
    obtain ⟨e, nx, h1, h2⟩ := h
    exact ⟨e, nx, H _ _ _ h1, h2.map H⟩
theorem TqAt.map {w w' : World} {g t f : Nat} {cs : Array Value} {L : List (Nat × Nat)} {bs : List Nat} (H : ∀ y t cs, Blk w y t cs → Blk w' y t cs) (h : TqAt w g t f cs L bs) : TqAt w' g t f cs L bs := by
  obtain ⟨A, h1, h2⟩ := h.ptr
  exact ⟨H _ _ _ h.blk, ⟨A, h1, h2.map H⟩, h.many, h.nodup, h.off, h.sort, h.le⟩
theorem TmAt.typed {w : World} : ∀ {A : Option Addr} {bs : List Nat} {l : List (Nat × Nat)}, TmAt w A bs l → ∀ y ∈ bs, ∃ cs, Blk w y 98 cs ∧ ∃ n, cs[0]? = some (.int .i64 n)
  | _, [], [], _, _, hb => by cases hb
  | _, [], _ :: _, h, _, _ => h.elim
  | _, _ :: _, [], h, _, _ => h.elim
  | _, b :: bs, p :: l, h, a, ha => by
    obtain ⟨_, nx, h1, h2⟩ := h
    rcases List.mem_cons.1 ha with rfl | ha
    · exact ⟨_, h1, _, rfl⟩
    · exact h2.typed a ha
theorem Tab.ne {w : World} (h : Tab w) {y t : Nat} {cs : Array Value} (hb : Blk w y t cs) {n : Int} (hc : cs[0]? = some (.int .i64 n)) : y ≠ 0 := fun e => by
  subst e
  have h1 := h.2 0 (by decide)
  rw [hb.cell] at h1
  rw [hc] at h1
  cases h1
theorem TqAt.typed {w : World} {g t f : Nat} {cs : Array Value} {L : List (Nat × Nat)} {bs : List Nat} (h : TqAt w g t f cs L bs) : ∀ y ∈ bs, ∃ cs, Blk w y 98 cs ∧ ∃ n, cs[0]? = some (.int .i64 n) := by
  obtain ⟨A, _, h2⟩ := h.ptr
  exact h2.typed
section
variable {F : Fence} {n : Nat} {P : Program} {Q : Exit → Act → World → Prop} {a : Act} {w : World}
/-- A region that draws its order, in a walk within a fence, where no yield is called: S need not hold behind the operation p. -/
theorem es_end {md : Region.Mode} {ops : Array Oper} {p : Nat} {S : World → Prop} {listed : Array Bool} (hr : Region.ready md ops listed = []) (h : Q .normal a w) (fuel : Nat) : wpAnyP P md ops (noOut (noPanic Q)) p S fuel listed a w := ap_done hr (by simpa [noOut, noPanic] using h) fuel
theorem es_start {id : Nat} {l : List Oper} (p : Nat) (S : World → Prop) (hF : Open F) (hm : P.follows .mixedOrders = true) (hd : noDefer l = true) (hS : S w.drew)
    (h : S w.drew → PanOk (noOut (noPanic Q)) → wpAnyP P .any l.toArray (noOut (noPanic Q)) p S l.toArray.size (Array.replicate l.toArray.size false) a w.drew) : (Code.region id l.toArray true).wpIn F n P Q a w :=
  wpIn_mono (ap_start p S hF hm hd hS h (fun _ _ d _ _ h => by cases d <;> exact h)) noPanic_le
end
/-- The first tasks come, or are timed. -/
def preS (X : ChX) (k : Nat) (s : EnS) (pre : List Nat) : EnS := pre.foldl (shiftStep X.x k) s
theorem preS_snoc (X : ChX) (k : Nat) (s : EnS) (pre : List Nat) (i : Nat) : preS X k s (pre ++ [i]) = shiftStep X.x k (preS X k s pre) i := by
  unfold preS
  rw [List.foldl_append]; rfl
theorem preS_opn {X : ChX} {k : Nat} : ∀ (pre : List Nat) (s : EnS), s.opn < 4294967296 → (preS X k s pre).opn < 4294967296
  | [], _, h => h
  | i :: pre, s, h => by
    have : (shiftStep X.x k s i).opn < 4294967296 := by
      unfold shiftStep
      split
      · exact Nat.or_lt_two_pow (n := 32) h (bitN_lt _)
      · exact h
    exact preS_opn pre _ this
/-- The state of the loop behind some tasks. -/
theorem preS_at {X : ChX} (g : ChG X) {k : Nat} {s : EnS} (ht : s.tm = []) (ho : s.opn = 0) {pre : List Nat} (hp : pre <+: bitsL (newN X.x k)) :
    (∀ i ∈ (preS X k s pre).tm.map Prod.fst, i ∈ pre) ∧ (preS X k s pre).tm.length ≤ 32 ∧ preS X k s pre = { s with opn := (preS X k s pre).opn, tm := (preS X k s pre).tm } := by
  have hm : ∀ i ∈ pre, i ∈ bitsL (newN X.x k) := fun i hi => hp.subset hi
  have hd : pre.Nodup := hp.sublist.nodup (bitsL_nodup2 _)
  obtain ⟨_, _, c, _, _, f, l⟩ := shift_fold (fun i => g.n16 k i) pre s [] hm (by rw [List.nil_append]; exact hd) (by rw [ht]; exact List.Pairwise.nil) (by rw [ht]; simp) (by rw [ht]; simp) (by rw [ht]; simp) (by rw [ho]; simp)
  refine ⟨fun i hi => ?_, ?_, f⟩
  · obtain ⟨p, hp1, rfl⟩ := List.mem_map.1 hi
    obtain ⟨i, r⟩ := p
    have := ((c i r).1 hp1).1
    simpa using this
  · have h1 := hp.length_le
    have h2 := bitsL_le (newN X.x k)
    rw [ht] at l
    show (pre.foldl (shiftStep X.x k) s).tm.length ≤ 32
    simp only [List.length_nil] at l
    omega
theorem EngAt.celled {w : World} {b : Nat} {v : ImgV} {x : Img} {vc : CrtV} {c : Crt} {s : EnS} {bs : List Nat} (h : EngAt w b v x vc c s bs) : ∀ y ∈ b :: bs, ∃ cs t fr, w.heap[y]? = some (.cells cs t fr) := fun y hy => by
  obtain ⟨A, q⟩ := h.tq
  rcases List.mem_cons.1 hy with rfl | hy
  · exact ⟨_, _, _, q.blk⟩
  · obtain ⟨cs, hb, _⟩ := q.typed y hy
    exact ⟨_, _, _, hb⟩
theorem EngAt.tab_ne {w : World} {b : Nat} {v : ImgV} {x : Img} {vc : CrtV} {c : Crt} {s : EnS} {bs : List Nat} (h : EngAt w b v x vc c s bs) : 0 ∉ b :: bs := fun hm => by
  obtain ⟨A, q⟩ := h.tq
  rcases List.mem_cons.1 hm with e | hy
  · exact h.tb.ne q.blk (n := x.res) rfl e.symm
  · obtain ⟨cs, hb, n, hc⟩ := q.typed _ hy
    exact h.tb.ne hb hc rfl
/-- What shift's loop keeps. -/
def ShI (b : Nat) (v : ImgV) (X : ChX) (vc : CrtV) (c : Crt) (k : Nat) (s : EnS) (bs : List Nat) (w5 : World) (pre : List Nat) (W : World) : Prop :=
  ∃ bs', (∃ A, TqAt W b 69 13 (engL v X.x vc c (preS X k s pre) A).toArray (preS X k s pre).tm bs') ∧ (∀ y ∈ bs', y ∈ bs ∨ w5.heap.size ≤ y) ∧ Keep (b :: bs) w5 W
theorem shI_own {b : Nat} {v : ImgV} {X : ChX} {vc : CrtV} {c : Crt} {k : Nat} {s : EnS} {bs : List Nat} {w5 : World} : OwnFrom w5.heap.size (ShI b v X vc c k s bs w5) := fun pre Y Z row hs hg hr => by
  obtain ⟨bs', ⟨A, q⟩, h2, h3⟩ := hs
  refine ⟨bs', ⟨A, q.map (fun y t cs hb => blk_own (β := Unit) y t (fun _ => cs) () Y Z row hb hg hr)⟩, h2, keep_own (β := Unit) (Nat.le_refl _) () Y Z row h3 hg hr⟩
theorem shI_round {b : Nat} {v : ImgV} {X : ChX} {vc : CrtV} {c : Crt} {k : Nat} {s s1 s3 : EnS} {bs bs1 bs3 : List Nat} {w5 W W3 : World} {pre : List Nat} {i mb : Nat} (hmb : mb < w5.heap.size ∧ mb ≠ b ∧ mb ∉ bs) (hk : Keep (b :: bs) w5 W) (hb : ∀ y ∈ bs1, y ∈ bs ∨ w5.heap.size ≤ y)
    (E : EngAt W b v X.x vc c s1 bs1) (E3 : EngAt W3 b v X.x vc c s3 bs3) (h3 : s3 = preS X k s (pre ++ [i])) (hb3 : ∀ y ∈ bs3, y ∈ bs1 ∨ W.heap.size ≤ y) (k3 : Keep (b :: bs1) W W3) :
    KeepsFrom w5.heap.size W W3 ∧ Same [mb, 0] W W3 ∧ ShI b v X vc c k s bs w5 (pre ++ [i]) W3 := by
  have hsz := hk.size
  have ht := E.tab_ne
  have ht1 := E.tb.1
  refine ⟨k3.from (fun z hz => .inr (E.celled z hz)), Same.keep k3 (fun y hy => ?_), bs3, by rw [← h3]; exact E3.tq, fun y hy => ?_, hk.trans k3 (fun y hy hlt => ?_)⟩
  · simp only [List.mem_cons, List.not_mem_nil, or_false] at hy
    rcases hy with rfl | rfl
    · refine ⟨by omega, fun hm => ?_⟩
      rcases List.mem_cons.1 hm with hm | hm
      · exact hmb.2.1 hm
      · rcases hb _ hm with hm | hm
        · exact hmb.2.2 hm
        · omega
    · exact ⟨ht1, ht⟩
  · rcases hb3 y hy with hy | hy
    · exact hb y hy
    · exact .inr (by omega)
  · rcases List.mem_cons.1 hy with rfl | hy
    · simp
    · rcases hb y hy with hy | hy
      · simp [hy]
      · omega
theorem edg_offs16 {w : World} {bb o : Nat} {e : Edg} (h : CellsAt w bb o (edgCells e)) : CellsAt w bb (o + 3) (iv e.offs) := fun j u hu => by
  have hlt : j < e.offs.length := by
    have := (List.getElem?_eq_some_iff.1 hu).1
    unfold iv at this
    simpa using this
  have h1 := h (j + 3) u (by
    unfold edgCells edgInts iv
    simp only [List.map_cons, List.getElem?_cons_succ, List.map_append]
    rw [List.getElem?_append_left (by simpa using hlt)]
    exact hu)
  rw [show o + 3 + j = o + (j + 3) by omega]
  exact h1
section
variable {w : World} {b : Nat} {v : ImgV} {X : ChX} {vc : CrtV} {c : Crt} {s : EnS} {bs : List Nat} (h : EngAt w b v X.x vc c s bs)
include h
set_option maxRecDepth 100000 in
set_option maxHeartbeats 2000000 in
theorem eshift_any (g : ChG X) {k : Nat} (he : s.edge = some k) (hk : k < X.x.edges.length) (h3 : ePr X.x k = 3) (ht : s.tm = []) (ho : s.opn = 0) :
    Calls Tryd.prog 31 #[.pointer (some ⟨b, 0, none⟩)] w fun e w' => e = .returned (.tuple #[]) ∧ ∃ bs', EngAt w' b v X.x vc c (shiftE X.x k s) bs' ∧ (∀ y ∈ bs', y ∈ bs ∨ w.heap.size ≤ y) ∧ Keep (b :: bs) w w' := by
  rw [← callsIn_wide (n := 9)]
  refine callsIn_of_wp_marks Tryd.func31 rfl trivial ?_ rfl
  simp only [Tryd.ntmps31, List.size_toArray, List.length_cons, List.length_nil, Nat.reduceAdd, Nat.reduceSub, Array.replicate_succ, Array.replicate_zero, List.push_toArray, List.append_toArray, List.nil_append, List.cons_append]
  obtain ⟨bb, o, hA, hc⟩ := h.edge1 hk
  have hl := h.im.le
  unfold maxLen at hl
  obtain ⟨W1, hW1⟩ : ∃ W1, w.alloc (.cells #[.pointer (some ⟨b, 0, none⟩)] 28) = W1 := ⟨_, rfl⟩
  have b1 : Blk W1 w.heap.size 28 #[.pointer (some ⟨b, 0, none⟩)] := by rw [← hW1]; exact Blk.new _ _ _
  have K1 : Keep [] w W1 := by rw [← hW1]; exact (Keep.refl _ w).alloc _
  have hz1 : W1.heap.size = w.heap.size + 1 := by rw [← hW1]; simp
  have ho16 : (edg X.x k).offs.length = 16 := by rw [edg_at hk]; exact g.ok.offs _ (List.getElem_mem hk)
  have hF : ∀ w', Keep [] W1 w' → w'.cell? ⟨b, 7, none⟩ = some (.int .i64 (k : Int)) ∧ w'.cell? ⟨b, 3, none⟩ = some (.slice (some ⟨bb, o, none⟩) X.x.edges.length v.ec) ∧ w'.cell? ⟨w.heap.size, 0, none⟩ = some (.pointer (some ⟨b, 0, none⟩)) := fun w' kk => by
    refine ⟨?_, ?_, ?_⟩
    · rw [(h.keep0 (K1.then kk)).c7, he]; rfl
    · rw [(h.keep0 (K1.then kk)).c3, hA]
    · rw [(b1.keep0 kk).cell]; rfl
  have HOF : ∀ w', Keep [] W1 w' → CellsAt w' bb (o + k * 23 + 3) (iv (edg X.x k).offs) := fun w' kk => edg_offs16 (hc w' (K1.then kk))
  have HIL : Hid ((iv (edg X.x k).offs).length = 16) := by show _ = _; rw [iv_len, ho16]
  have HIO : Hid (∀ u ∈ iv (edg X.x k).offs, u.oneCell' = true) := iv_one _
  have p0 : (0 : Int) ≤ (k : Int) := by omega
  have p1 : (k : Int) < (X.x.edges.length : Int) := by omega
  have HW := Lib.hid hW1
  have HE := Lib.hid h
  clear hc h hW1
  generalize hil : iv (edg X.x k).offs = il at *
  gi_wp2_with (rw [HW.out])
  refine es_start 13 (Keep [] W1) open_wide rfl rfl (Keep.refl _ _).drew (fun hS hPan => ?_)
  (refine ap_val (v := ?_) 0 rfl (by kernel_rfl) (by kernel_rfl) (by kernel_rfl) (by kernel_rfl) (by rfl) hPan ?_ hS ?_; rotate_left; (intro w' hSw; obtain ⟨f1,f2,f3⟩ := hF w' hSw; go_simp; try with_reducible rfl); simp only [Act.put, List.setIfInBounds_toArray, List.set_cons_zero, List.set_cons_succ])
  (refine ap_val (v := ?_) 1 rfl (by kernel_rfl) (by kernel_rfl) (by kernel_rfl) (by kernel_rfl) (by rfl) hPan ?_ hS ?_; rotate_left; (intro w' hSw; obtain ⟨f1,f2,f3⟩ := hF w' hSw; go_simp; try with_reducible rfl); simp only [Act.put, List.setIfInBounds_toArray, List.set_cons_zero, List.set_cons_succ])
  (refine ap_val (v := ?_) 2 rfl (by kernel_rfl) (by kernel_rfl) (by kernel_rfl) (by kernel_rfl) (by rfl) hPan ?_ hS ?_; rotate_left; (intro w' hSw; obtain ⟨f1,f2,f3⟩ := hF w' hSw; go_simp; try with_reducible rfl); simp only [Act.put, List.setIfInBounds_toArray, List.set_cons_zero, List.set_cons_succ])
  (refine ap_val (v := ?_) 3 rfl (by kernel_rfl) (by kernel_rfl) (by kernel_rfl) (by kernel_rfl) (by rfl) hPan ?_ hS ?_; rotate_left; (intro w' hSw; obtain ⟨f1,f2,f3⟩ := hF w' hSw; go_simp; try with_reducible rfl); simp only [Act.put, List.setIfInBounds_toArray, List.set_cons_zero, List.set_cons_succ])
  (refine ap_val (v := ?_) 4 rfl (by kernel_rfl) (by kernel_rfl) (by kernel_rfl) (by kernel_rfl) (by rfl) hPan ?_ hS ?_; rotate_left; (intro w' hSw; obtain ⟨f1,f2,f3⟩ := hF w' hSw; go_simp; try with_reducible rfl); simp only [Act.put, List.setIfInBounds_toArray, List.set_cons_zero, List.set_cons_succ])
  (refine ap_val (v := ?_) 5 rfl (by kernel_rfl) (by kernel_rfl) (by kernel_rfl) (by kernel_rfl) (by rfl) hPan ?_ hS ?_; rotate_left; (intro w' hSw; obtain ⟨f1,f2,f3⟩ := hF w' hSw; go_simp; try with_reducible rfl); simp only [Act.put, List.setIfInBounds_toArray, List.set_cons_zero, List.set_cons_succ])
  (refine ap_val (v := ?_) 6 rfl (by kernel_rfl) (by kernel_rfl) (by kernel_rfl) (by kernel_rfl) (by rfl) hPan ?_ hS ?_; rotate_left; (intro w' hSw; obtain ⟨f1,f2,f3⟩ := hF w' hSw; go_simp; try with_reducible rfl); simp only [Act.put, List.setIfInBounds_toArray, List.set_cons_zero, List.set_cons_succ])
  (refine ap_val (v := ?_) 7 rfl (by kernel_rfl) (by kernel_rfl) (by kernel_rfl) (by kernel_rfl) (by rfl) hPan ?_ hS ?_; rotate_left; (intro w' hSw; obtain ⟨f1,f2,f3⟩ := hF w' hSw; go_simp; try with_reducible rfl); simp only [Act.put, List.setIfInBounds_toArray, List.set_cons_zero, List.set_cons_succ])
  (refine ap_val (v := ?_) 8 rfl (by kernel_rfl) (by kernel_rfl) (by kernel_rfl) (by kernel_rfl) (by rfl) hPan ?_ hS ?_; rotate_left; (intro w' hSw; obtain ⟨f1,f2,f3⟩ := hF w' hSw; go_simp; try with_reducible rfl); simp only [Act.put, List.setIfInBounds_toArray, List.set_cons_zero, List.set_cons_succ])
  (refine ap_val (v := ?_) 9 rfl (by kernel_rfl) (by kernel_rfl) (by kernel_rfl) (by kernel_rfl) (by rfl) hPan ?_ hS ?_; rotate_left; (intro w' hSw; obtain ⟨f1,f2,f3⟩ := hF w' hSw; go_simp; try with_reducible rfl); simp only [Act.put, List.setIfInBounds_toArray, List.set_cons_zero, List.set_cons_succ])
  (refine ap_val (v := ?_) 10 rfl (by kernel_rfl) (by kernel_rfl) (by kernel_rfl) (by kernel_rfl) (by rfl) hPan ?_ hS ?_; rotate_left; (intro w' hSw; obtain ⟨f1,f2,f3⟩ := hF w' hSw; go_simp; try with_reducible rfl); simp only [Act.put, List.setIfInBounds_toArray, List.set_cons_zero, List.set_cons_succ])
  refine ap_agg 11 90 (.tmp 14) il rfl (by kernel_rfl) (by kernel_rfl) (by kernel_rfl) (by kernel_rfl) (by rfl) hPan rfl rfl (by rw [HIL.out]; exact agg_offs) HOF hS ?_
  (simp only [Act.put, List.setIfInBounds_toArray, List.set_cons_zero, List.set_cons_succ])
  generalize W1.drew = wd at *
  refine ap_one 12 (by kernel_rfl) ?_
  refine op_run (v := .pointer (some ⟨wd.heap.size, 0, none⟩)) (w' := wd.alloc (.cells (iv z16).toArray 90)) 12 rfl (by rfl) (by go_simp; rfl) ?_
  have B0 := Blk.new wd 90 (iv z16).toArray
  have S0 := hS.alloc (.cells (iv z16).toArray 90)
  have hgs := hS.size
  generalize wd.alloc (.cells (iv z16).toArray 90) = w2 at *
  generalize wd.heap.size = g2 at *
  refine ⟨fun _ => S0, ?_⟩
  (simp only [Act.put, List.setIfInBounds_toArray, List.set_cons_zero, List.set_cons_succ])
  refine ap_one 13 (by kernel_rfl) ?_
  refine op_store_all 13 rfl (by rfl) rfl rfl rfl (by rw [HIL.out]; exact agg_offs.2) B0 HIO.out (by rw [HIL.out]; rfl) ?_
  intro w3 B3 k3
  have K3 : Keep [] W1 w3 := S0.trans k3 (fun y hy hlt => by simp at hy; omega)
  refine ⟨fun hp => (by cases hp), es_end (by kernel_rfl) ?_ _⟩
  (simp only [Act.put])
  have HB3 := Lib.hid B3
  have HK3 := Lib.hid K3
  have HCL := Lib.hid (eclasses_any (HE.out.keep0 (K1.then K3)) he hk)
  have q3 := (hF w3 K3).2.2
  have hng := clsE_new X.x hk
  have hfn := field_new (clsE X.x k)
  rw [hng] at hfn
  clear hF HOF B3 K3 B0 S0 k3 hS hPan hng
  generalize clsE X.x k = ce at *
  gi_wp2_with (first
    | (refine ⟨trivial, ?_⟩; gi_at_call 49; refine (callsIn_wide.2 HCL.out).mono ?_; rintro e w4 ⟨rfl, k4⟩)
    | (refine ⟨trivial, ?_⟩; gi_at_call 40; refine (callsIn_wide.2 (maskAll_any (newN X.x k) _)).mono ?_; rintro e w5 ⟨rfl, hw5⟩))
  have K4 : Keep [] W1 w4 := HK3.out.then k4
  have k45 : Keep [] w4 w5 := by rw [← hw5]; exact (Keep.refl _ w4).alloc _
  have K5 : Keep [] W1 w5 := K4.then k45
  have d5 : Blk w5 w4.heap.size 36 #[.int .u32 (newN X.x k : Int)] := by rw [← hw5]; exact Blk.new _ _ _
  have hz5 : w5.heap.size = w4.heap.size + 1 := by rw [← hw5]; simp
  have E5 := HE.out.keep0 (K1.then K5)
  have hnl : newN X.x k < 4294967296 := minusN_lt _ _ (by have := g.s16 (edg X.x k).to; omega)
  have hss := maskAll1_seq 8 (newN X.x k) w4.heap.size w5 (by omega) d5 hnl E5.tb
  have hz4 := K4.size
  have hbw := HE.out.lt
  have hbsw := HE.out.lts
  have hB5 : Blk w5 g2 90 il.toArray := HB3.out.keep0 (k4.then k45)
  have hg2 := hB5.lt
  have d1 : Blk w5 w.heap.size 28 #[.pointer (some ⟨b, 0, none⟩)] := b1.keep0 K5
  have hso : s.opn < 4294967296 := by omega
  have hmb : w4.heap.size < w5.heap.size ∧ w4.heap.size ≠ b ∧ w4.heap.size ∉ bs := ⟨by omega, by omega, fun hm => by have := hbsw _ hm; omega⟩
  have HE5 := Lib.hid E5
  have HK5 := Lib.hid (K1.then K5)
  have htq := E5.tq
  clear hw5 HCL hfn k4 q3 HB3 HK3 d5 K4 k45 K5 E5
  refine wpIn_rangeT (F := Fence.wide) (n := 9) (Lo := fun _ _ => False) (ps := #[20]) rfl (by omega) (gf := 56) (lb := #[.pointer (some ⟨w4.heap.size, 0, none⟩)]) rfl trivial (enters_of Tryd.func56 (by kernel_rfl) rfl)
    (hss.toT _) Same.trans (fun W _ o' _ _ => same_putO (by simp; omega) o') (Below.refl _ _) (fun _ => rfl)
    (ShI b v X vc c k s bs w5)
    (fun _ _ _ => False)
    ?hI (fun _ _ _ _ _ hs _ _ => hs) ⟨bs, htq, fun y hy => .inl hy, Keep.refl _ _⟩
    (fun i => { tmps := #[.pointer (some ⟨b, 0, none⟩), .pointer (some ⟨w.heap.size, 0, none⟩), .pointer (some ⟨g2, 0, none⟩), .int .i64 (i : Int), .pointer (some ⟨b, 0, none⟩), .pointer (some ⟨b, 0, none⟩), .pointer (some ⟨b, 0, none⟩), .pointer (some ⟨b, 3, none⟩), .slice (some ⟨bb, o, none⟩) X.x.edges.length v.ec,
      .pointer (some ⟨b, 0, none⟩), .pointer (some ⟨b, 0, none⟩), .pointer (some ⟨b, 7, none⟩), .int .i64 (k : Int), .pointer (some ⟨bb, o + k * 23, none⟩), .pointer (some ⟨bb, o + k * 23 + 3, none⟩), .agg il.toArray, .pointer (some ⟨b, 0, none⟩), .agg (clsCells ce).toArray, .int .u32 (newN X.x k : Int),
      .func (.func 56) #[] #[.pointer (some ⟨w4.heap.size, 0, none⟩)], .int .i64 (i : Int), undef, undef, undef, undef, undef, undef, undef, undef, undef, undef, undef, undef, undef, undef, undef, undef, undef, undef, undef, undef, undef, undef, undef, undef, undef], defers := [] }) ?assign ?body ?done ?stop
  case hI => exact OwnFrom.toT shI_own
  case assign =>
    intro l i W' K hK
    simp only [encN]
    gi_wp2
    exact hK
  case body =>
    rintro l pre i W ⟨bs1, hq, hb, hK⟩ hpre
    have E : EngAt W b v X.x vc c (preS X k s pre) bs1 := HE5.out.next hK hq (fun y hy => hb y hy)
    have hi16 : i < 16 := g.n16 k i (hpre.subset (by simp))
    have hpp : pre <+: bitsL (newN X.x k) := (List.prefix_append pre [i]).trans hpre
    obtain ⟨a1, a2, a3⟩ := preS_at g ht ho hpp
    have a4 := preS_opn (X := X) (k := k) pre s hso
    have hni : i ∉ pre := fun hm => by
      have := hpre.sublist.nodup (bitsL_nodup2 _)
      rw [List.nodup_append] at this
      exact this.2.2 i hm i (by simp) rfl
    have hoff := g.off k hk h3 i (hpre.subset (by simp))
    have hla := g.la k
    have e1 : Blk W w.heap.size 28 #[.pointer (some ⟨b, 0, none⟩)] := d1.keep hK (fun hm => by
      rcases List.mem_cons.1 hm with hm | hm
      · omega
      · have := hbsw _ hm; omega)
    have e2 : Blk W g2 90 il.toArray := hB5.keep hK (fun hm => by
      rcases List.mem_cons.1 hm with hm | hm
      · omega
      · have := hbsw _ hm; omega)
    have hil2 : il[i]? = some (.int .i64 (eOff X.x k i)) := by
      rw [← hil]
      unfold iv eOff
      rw [List.getElem?_map, List.getD_eq_getElem?_getD, List.getElem?_eq_getElem (by omega)]
      rfl
    have ci : W.cell? ⟨g2, i, none⟩ = some (.int .i64 (eOff X.x k i)) := e2.at_ hil2
    have p16 : ¬ (16 : Int) ≤ (i : Int) := by omega
    have p0i : (0 : Int) ≤ (i : Int) := by omega
    have p1i : (i : Int) < 16 := by omega
    have hsn := preS_snoc X k s pre i
    have hfin := fun (s3 : EnS) (bs3 : List Nat) (W3 : World) (E3 : EngAt W3 b v X.x vc c s3 bs3) (q1 : s3 = preS X k s (pre ++ [i])) (q2 : ∀ y ∈ bs3, y ∈ bs1 ∨ W.heap.size ≤ y) (q3 : Keep (b :: bs1) W W3) => shI_round (i := i) hmb hK hb E E3 q1 q2 q3
    have HFIN := Lib.hid hfin
    have HEW := Lib.hid E
    have HSN := Lib.hid hsn
    have hF : ∀ w', Keep [] W w' → w'.cell? ⟨w.heap.size, 0, none⟩ = some (.pointer (some ⟨b, 0, none⟩)) ∧ w'.cell? ⟨b, 12, none⟩ = some (.int .u32 ((preS X k s pre).opn : Int)) ∧ w'.cell? ⟨g2, i, none⟩ = some (.int .i64 (eOff X.x k i)) := fun w' kk =>
      ⟨by rw [(e1.keep0 kk).cell]; rfl, (HEW.out.keep0 kk).c12, (e2.keep0 kk).at_ hil2⟩
    clear E hsn hfin hq a3
    generalize preS X k s pre = s1 at *
    by_cases hlt : eOff X.x k i < 1
    · have HST : Hid (shiftStep X.x k s1 i = { s1 with opn := s1.opn ||| bitN (i : Int) }) := by show _ = _; unfold shiftStep; rw [if_pos hlt]
      have HWI := fun w' => Lib.hid (with_any s1.opn (i : Int) w' a4)
      clear hoff
      generalize eOff X.x k i = eo at *
      gi_wp2
      refine es_start 9 (Keep [] W) (open_round _) rfl rfl (Keep.refl _ _).drew (fun hS hPan => ?_)
      (refine ap_val (v := ?_) 0 rfl (by kernel_rfl) (by kernel_rfl) (by kernel_rfl) (by kernel_rfl) (by rfl) hPan ?_ hS ?_; rotate_left; (intro w' hSw; obtain ⟨f1,f2,f3⟩ := hF w' hSw; go_simp; try with_reducible rfl); simp only [Act.put, List.setIfInBounds_toArray, List.set_cons_zero, List.set_cons_succ])
      (refine ap_val (v := ?_) 1 rfl (by kernel_rfl) (by kernel_rfl) (by kernel_rfl) (by kernel_rfl) (by rfl) hPan ?_ hS ?_; rotate_left; (intro w' hSw; obtain ⟨f1,f2,f3⟩ := hF w' hSw; go_simp; try with_reducible rfl); simp only [Act.put, List.setIfInBounds_toArray, List.set_cons_zero, List.set_cons_succ])
      (refine ap_val (v := ?_) 2 rfl (by kernel_rfl) (by kernel_rfl) (by kernel_rfl) (by kernel_rfl) (by rfl) hPan ?_ hS ?_; rotate_left; (intro w' hSw; obtain ⟨f1,f2,f3⟩ := hF w' hSw; go_simp; try with_reducible rfl); simp only [Act.put, List.setIfInBounds_toArray, List.set_cons_zero, List.set_cons_succ])
      (refine ap_val (v := ?_) 3 rfl (by kernel_rfl) (by kernel_rfl) (by kernel_rfl) (by kernel_rfl) (by rfl) hPan ?_ hS ?_; rotate_left; (intro w' hSw; obtain ⟨f1,f2,f3⟩ := hF w' hSw; go_simp; try with_reducible rfl); simp only [Act.put, List.setIfInBounds_toArray, List.set_cons_zero, List.set_cons_succ])
      (refine ap_val (v := ?_) 4 rfl (by kernel_rfl) (by kernel_rfl) (by kernel_rfl) (by kernel_rfl) (by rfl) hPan ?_ hS ?_; rotate_left; (intro w' hSw; obtain ⟨f1,f2,f3⟩ := hF w' hSw; go_simp; try with_reducible rfl); simp only [Act.put, List.setIfInBounds_toArray, List.set_cons_zero, List.set_cons_succ])
      (refine ap_val (v := ?_) 5 rfl (by kernel_rfl) (by kernel_rfl) (by kernel_rfl) (by kernel_rfl) (by rfl) hPan ?_ hS ?_; rotate_left; (intro w' hSw; obtain ⟨f1,f2,f3⟩ := hF w' hSw; go_simp; try with_reducible rfl); simp only [Act.put, List.setIfInBounds_toArray, List.set_cons_zero, List.set_cons_succ])
      generalize W.drew = wd at *
      refine ap_one 6 (by kernel_rfl) ?_
      refine op_call (f := 24) 6 rfl (by rfl) rfl (by simp only [List.map_toArray, List.map_cons, List.map_nil]; rfl) Tryd.func24 (by kernel_rfl) (by kernel_rfl) (HWI wd).out ?_
      rintro e wx ⟨rfl, rfl⟩
      refine ⟨_, rfl, fun _ => hS, ?_⟩
      (simp only [Act.put, List.setIfInBounds_toArray, List.set_cons_zero, List.set_cons_succ])
      (refine ap_val (v := ?_) 7 rfl (by kernel_rfl) (by kernel_rfl) (by kernel_rfl) (by kernel_rfl) (by rfl) hPan ?_ hS ?_; rotate_left; (intro w' hSw; go_simp; try with_reducible rfl); simp only [Act.put, List.setIfInBounds_toArray, List.set_cons_zero, List.set_cons_succ])
      (refine ap_val (v := ?_) 8 rfl (by kernel_rfl) (by kernel_rfl) (by kernel_rfl) (by kernel_rfl) (by rfl) hPan ?_ hS ?_; rotate_left; (intro w' hSw; go_simp; try with_reducible rfl); simp only [Act.put, List.setIfInBounds_toArray, List.set_cons_zero, List.set_cons_succ])
      have Ed := HEW.out.keep0 hS
      have c12 := Ed.c12
      have f12 := Ed.fr 12
      have E9 := Ed.put (i := 12) (u := .int .u32 ((s1.opn ||| bitN (i : Int) : Nat) : Int)) (s' := { s1 with opn := s1.opn ||| bitN (i : Int) }) (by decide) (fun A => rfl) rfl
      have k9 : Keep (b :: bs1) W (wd.setCell ⟨b, 12, none⟩ (.int .u32 ((s1.opn ||| bitN (i : Int) : Nat) : Int))) := (hS.mono (by simp)).setCell (p := ⟨b, 12, none⟩) (fun _ => List.mem_cons_self) _
      refine ap_one 9 (by kernel_rfl) ?_
      refine op_store1 (v := .int .u32 ((s1.opn ||| bitN (i : Int) : Nat) : Int)) 9 rfl (by rfl) rfl rfl rfl (by kernel_rfl) rfl rfl c12 f12 ?_
      refine ⟨fun hp => (by cases hp), es_end (by kernel_rfl) ?_ _⟩
      (simp only [Act.put])
      have HF9 := Lib.hid (HFIN.out _ _ _ E9 (by rw [HSN.out, HST.out]) (fun y hy => .inl hy) k9)
      clear hF hS hPan Ed c12 f12 E9 k9
      gi_wp2
      exact HF9.out
    · obtain ⟨n, hn⟩ : ∃ n : Nat, eOff X.x k i = (n : Int) := ⟨(eOff X.x k i).toNat, by omega⟩
      have hn1 : 1 ≤ n ∧ n ≤ 65536 := by omega
      have HST : Hid (shiftStep X.x k s1 i = addE s1 i n) := by show _ = _; unfold shiftStep; rw [if_neg hlt, hn, Int.toNat_natCast]
      rw [hn] at hF hil2 ci hlt
      have HADD : Hid (∀ w' A, TqAt w' b 69 13 (engL v X.x vc c s1 A).toArray s1.tm bs1 → Calls Tryd.prog 33 #[.pointer (some ⟨b, 13, none⟩), .int .i64 (i : Int), .int .i64 (n : Int)] w' fun e w2 => e = .returned (.bool true) ∧ TqPost w' b 69 13 (engL v X.x vc c s1 A).toArray (addR s1.tm i n) bs1 w2) := fun w' A q =>
        add_any b _ 13 _ _ bs1 i n w' q (fun hm => hni (a1 i hm)) hn1 (by omega)
      clear hoff hn
      gi_wp2
      refine es_start 7 (Keep [] W) (open_round _) rfl rfl (Keep.refl _ _).drew (fun hS hPan => ?_)
      (refine ap_val (v := ?_) 0 rfl (by kernel_rfl) (by kernel_rfl) (by kernel_rfl) (by kernel_rfl) (by rfl) hPan ?_ hS ?_; rotate_left; (intro w' hSw; obtain ⟨f1,f2,f3⟩ := hF w' hSw; go_simp; try with_reducible rfl); simp only [Act.put, List.setIfInBounds_toArray, List.set_cons_zero, List.set_cons_succ])
      (refine ap_val (v := ?_) 1 rfl (by kernel_rfl) (by kernel_rfl) (by kernel_rfl) (by kernel_rfl) (by rfl) hPan ?_ hS ?_; rotate_left; (intro w' hSw; obtain ⟨f1,f2,f3⟩ := hF w' hSw; go_simp; try with_reducible rfl); simp only [Act.put, List.setIfInBounds_toArray, List.set_cons_zero, List.set_cons_succ])
      (refine ap_val (v := ?_) 2 rfl (by kernel_rfl) (by kernel_rfl) (by kernel_rfl) (by kernel_rfl) (by rfl) hPan ?_ hS ?_; rotate_left; (intro w' hSw; obtain ⟨f1,f2,f3⟩ := hF w' hSw; go_simp; try with_reducible rfl); simp only [Act.put, List.setIfInBounds_toArray, List.set_cons_zero, List.set_cons_succ])
      (refine ap_val (v := ?_) 3 rfl (by kernel_rfl) (by kernel_rfl) (by kernel_rfl) (by kernel_rfl) (by rfl) hPan ?_ hS ?_; rotate_left; (intro w' hSw; obtain ⟨f1,f2,f3⟩ := hF w' hSw; go_simp; try with_reducible rfl); simp only [Act.put, List.setIfInBounds_toArray, List.set_cons_zero, List.set_cons_succ])
      (refine ap_val (v := ?_) 4 rfl (by kernel_rfl) (by kernel_rfl) (by kernel_rfl) (by kernel_rfl) (by rfl) hPan ?_ hS ?_; rotate_left; (intro w' hSw; obtain ⟨f1,f2,f3⟩ := hF w' hSw; go_simp; try with_reducible rfl); simp only [Act.put, List.setIfInBounds_toArray, List.set_cons_zero, List.set_cons_succ])
      (refine ap_val (v := ?_) 5 rfl (by kernel_rfl) (by kernel_rfl) (by kernel_rfl) (by kernel_rfl) (by rfl) hPan ?_ hS ?_; rotate_left; (intro w' hSw; obtain ⟨f1,f2,f3⟩ := hF w' hSw; go_simp; try with_reducible rfl); simp only [Act.put, List.setIfInBounds_toArray, List.set_cons_zero, List.set_cons_succ])
      (refine ap_val (v := ?_) 6 rfl (by kernel_rfl) (by kernel_rfl) (by kernel_rfl) (by kernel_rfl) (by rfl) hPan ?_ hS ?_; rotate_left; (intro w' hSw; obtain ⟨f1,f2,f3⟩ := hF w' hSw; go_simp; try with_reducible rfl); simp only [Act.put, List.setIfInBounds_toArray, List.set_cons_zero, List.set_cons_succ])
      generalize W.drew = wd at *
      have Ed := HEW.out.keep0 hS
      obtain ⟨A, qd⟩ := Ed.tq
      refine ap_one 7 (by kernel_rfl) ?_
      refine op_call (f := 33) 7 rfl (by rfl) rfl (by simp only [List.map_toArray, List.map_cons, List.map_nil]; rfl) Tryd.func33 (by kernel_rfl) (by kernel_rfl) (HADD.out wd A qd) ?_
      rintro e wx ⟨rfl, hq⟩
      obtain ⟨bs3, E9, hb9, k9⟩ := Ed.timed hq
      refine ⟨_, rfl, fun hp => (by cases hp), es_end (by kernel_rfl) ?_ _⟩
      (simp only [Act.put])
      have hsz9 := hS.size
      have HF9 := Lib.hid (HFIN.out _ _ _ E9 (by rw [HSN.out, HST.out]; rfl) (fun y hy => (hb9 y hy).imp id (fun hy => Nat.le_trans hsz9 hy)) ((hS.mono (by simp)).trans k9 (fun y hy _ => hy)))
      clear hF hS hPan Ed E9 k9 hq qd HADD
      gi_wp2
      exact HF9.out
  case stop => exact fun _ _ _ _ _ _ h _ => h.elim
  case done =>
    rintro D Wd hD ⟨bs1, hq, hb, hK⟩ hD2
    have hz15 := HK5.out.size
    obtain ⟨A, q⟩ := hq
    have hK2 : Keep (b :: bs) w5 (Wd.putObj D (.deferred none)) := hK.trans (keep_putObj _ D _) (fun y hy hlt => by simp at hy; omega)
    have q2 := q.map (w' := Wd.putObj D (.deferred none)) (fun y t cs hb => blk_putObj (.deferred none) hb hD2 rfl)
    have E : EngAt (Wd.putObj D (.deferred none)) b v X.x vc c (preS X k s (bitsL (newN X.x k))) bs1 := HE5.out.next hK2 ⟨A, q2⟩ (fun y hy => hb y hy)
    have hfin : EngAt (Wd.putObj D (.deferred none)) b v X.x vc c (shiftE X.x k s) bs1 := E
    have HFI := Lib.hid hfin
    have HKK := Lib.hid ((HK5.out.mono (G := b :: bs) (by simp)).trans hK2 (fun y hy _ => hy))
    have HD2 := Lib.hid hD2
    clear E q q2 hfin hK2
    gi_wp2
    refine ⟨by simp, .inl ⟨_, _, rfl, run_takeDeferred HD2.out, ?_⟩⟩
    exact ⟨.tuple #[], by simp [results, Tryd.results31, go_sem], rfl, bs1, HFI.out, fun y hy => (hb y hy).imp id (fun hy => Nat.le_trans hz15 hy), HKK.out⟩
end
theorem eshiftA {b : Nat} {v : ImgV} {X : ChX} {vc : CrtV} {c : Crt} (g : ChG X) : ShiftA b v X vc c := fun _ _ hi h3 ht ho he _ _ h1 => eshift_any h1 g he hi h3 ht ho
end Go.Proofs.YteflgdnekflbbaaDoor

namespace Go.Proofs.YteflgdnekflbbaaDoor
open Go.RowKit
attribute [local go_sem] Oper.semAt_some

theorem tm_small {X : ChX} (g : ChG X) {s : EnS} {d : DcS} (h : RelE X s d) : (∀ p ∈ s.tm, 1 ≤ p.2) ∧ s.tm.length ≤ 64 := by
  have ht := h.tm
  unfold TmRel at ht
  cases he : s.edge with
  | none =>
    rw [he] at ht
    rw [ht.2.2]
    exact ⟨fun p hp => (by cases hp), by simp⟩
  | some k =>
    rw [he] at ht
    obtain ⟨hk, ⟨_, _, _, e⟩ | ⟨_, _, _, h1, h2, e⟩ | ⟨_, _, _, h1, h2, h3, L, e, hL⟩ | ⟨_, _, h1, _, e⟩⟩ := ht
    · rw [e]; exact ⟨fun p hp => (by cases hp), by simp⟩
    · rw [e]; exact ⟨fun p hp => by simp at hp; subst hp; show 1 ≤ _; omega, by simp⟩
    · rw [e]
      refine ⟨fun p hp => ?_, ?_⟩
      · rcases List.mem_append.1 hp with hp | hp
        · exact (hL.pos p hp).1
        · simp at hp; subst hp; show 1 ≤ _; omega
      · have := nodup_leC 16 _ hL.nodup (fun i hi => by
          obtain ⟨p, hp, rfl⟩ := List.mem_map.1 hi
          exact g.n16 k p.1 ((hL.mem p.1 p.2).1 hp).1)
        rw [List.length_map] at this
        simp
        omega
    · rw [e]; exact ⟨fun p hp => by simp at hp; subst hp; show 1 ≤ _; omega, by simp⟩
/-- The state behind the first ids that are due. -/
def tkS (X : ChX) (lb : Bool) (s : EnS) (j : Nat) : EnS × List Nw := ((popR s.tm).1.take j).foldl (tickStep X lb) ({ s with now := s.now + 1, tm := (popR s.tm).2 }, [])
theorem tkS_next {X : ChX} {lb : Bool} {s : EnS} {j : Nat} (hj : j < (popR s.tm).1.length) : tkS X lb s (j + 1) = tickStep X lb (tkS X lb s j) ((popR s.tm).1[j]) := by
  unfold tkS
  rw [List.take_succ_eq_append_getElem hj, List.foldl_append]
  rfl
theorem tkS_end {X : ChX} {lb : Bool} {s : EnS} : tickE X s lb = (if (tkS X lb s (popR s.tm).1.length).1.ph = 1 ∧ lb = false then ((come1 X lb (tkS X lb s (popR s.tm).1.length).1).1, (tkS X lb s (popR s.tm).1.length).2 ++ (come1 X lb (tkS X lb s (popR s.tm).1.length).1).2) else tkS X lb s (popR s.tm).1.length) := by
  unfold tkS tickE
  rw [List.take_length]
theorem popR_mem : ∀ {l : List (Nat × Nat)} {i : Nat}, i ∈ (popR l).1 → i ∈ l.map Prod.fst
  | [], i, h => by cases h
  | p :: l, i, h => by
    rw [popR] at h
    split at h
    · rcases List.mem_cons.1 h with rfl | h
      · simp
      · exact List.mem_cons_of_mem _ (popR_mem h)
    · cases h
theorem popR_len : ∀ (l : List (Nat × Nat)), (popR l).1.length ≤ l.length
  | [] => Nat.le_refl _
  | p :: l => by
    rw [popR]
    split
    · have := popR_len l
      simp only [List.length_cons]
      omega
    · exact Nat.zero_le _
theorem shf_opn {X : ChX} (g : ChG X) {k el opn : Nat} {L : List (Nat × Nat)} (h : Shf X k el L opn) : opn < 65536 := by
  refine Nat.lt_pow_two_of_testBit (n := 16) _ (fun j hj => ?_)
  cases hb : opn.testBit j with
  | false => rfl
  | true =>
    have := g.n16 k j ((h.opn j).1 hb).1
    omega
theorem opn_due {X : ChX} (g : ChG X) {s : EnS} {d : DcS} (h : RelE X s d) {i : Nat} (hi : i ∈ (popR s.tm).1) (h16 : i < 16) : s.opn < 65536 := by
  have hm := popR_mem hi
  have ht := h.tm
  unfold TmRel at ht
  cases he : s.edge with
  | none => rw [he] at ht; rw [ht.2.2] at hm; cases hm
  | some k =>
    rw [he] at ht
    obtain ⟨hk, ⟨_, _, _, e⟩ | ⟨_, _, _, h1, h2, e⟩ | ⟨_, _, _, h1, h2, h3, L, e, hL⟩ | ⟨_, _, h1, _, e⟩⟩ := ht
    · rw [e] at hm; cases hm
    · rw [e] at hm; simp at hm; omega
    · exact shf_opn g hL
    · rw [e] at hm; simp at hm; omega
theorem fold_opn : ∀ (l : List Nat) (n : Nat), n < 4294967296 → l.foldl (fun n i => n ||| bitN ((i : Nat) : Int)) n < 4294967296
  | [], _, h => h
  | i :: l, n, h => fold_opn l _ (Nat.or_lt_two_pow (n := 32) h (bitN_lt _))
/-- What is known at each id. -/
structure TkK (X : ChX) (lb : Bool) (s : EnS) (j : Nat) : Prop where
  small : (popR s.tm).1[j]?.getD 99 < 16 ∨ (((popR s.tm).1[j]?.getD 99 = 16 ∨ (popR s.tm).1[j]?.getD 99 = 17) ∧ (tkS X lb s j).1.tm = [] ∧ ∃ k, (tkS X lb s j).1.edge = some k ∧ k < X.x.edges.length)
  news : (tkS X lb s j).2 = []
  lt : (popR s.tm).1[j]?.getD 99 < 16 → (tkS X lb s j).1.opn < 4294967296
  opn : (tkS X lb s j).1 = { s with now := s.now + 1, tm := (popR s.tm).2, opn := (tkS X lb s j).1.opn }
theorem tk_at {X : ChX} (g : ChG X) {lb : Bool} {s : EnS} {d : DcS} (h : RelE X s d) {j : Nat} (hj : j < (popR s.tm).1.length) : TkK X lb s j := by
  obtain ⟨l1, fin, e, h16, hf⟩ := tick_pre g h
  have hfl : fin.length ≤ 1 := by rcases hf with rfl | ⟨rfl | rfl, _⟩ <;> simp
  have hj1 : j ≤ l1.length := by rw [e, List.length_append] at hj; omega
  have e2 : tkS X lb s j = ({ s with now := s.now + 1, tm := (popR s.tm).2, opn := (l1.take j).foldl (fun n i => n ||| bitN ((i : Nat) : Int)) s.opn }, []) := by
    unfold tkS
    rw [e, List.take_append_of_le_length hj1, foldO (l1.take j) _ _ (fun i hi => h16 i (List.mem_of_mem_take hi))]
  refine ⟨?_, by rw [e2], fun hlt => ?_, by rw [e2]⟩
  rotate_left
  · rw [e2]
    refine fold_opn _ _ (Nat.lt_trans (opn_due g h (i := (popR s.tm).1[j]) (List.getElem_mem hj) ?_) (by decide))
    rw [List.getElem?_eq_getElem hj] at hlt
    exact hlt
  rw [e, List.getElem?_append]
  split
  · rename_i hlt
    left
    rw [List.getElem?_eq_getElem hlt]
    exact h16 _ (List.getElem_mem hlt)
  · rename_i hge
    right
    have hjl : j = l1.length := by omega
    subst hjl
    rcases hf with rfl | ⟨hf, ht, k, hk, hkl⟩
    · rw [e] at hj; simp at hj
    · rw [Nat.sub_self]
      refine ⟨?_, by rw [e2]; exact ht, k, by rw [e2]; exact hk, hkl⟩
      rcases hf with rfl | rfl
      · exact .inl rfl
      · exact .inr rfl
/-- What is known where one waits at the end of a tick and no job is there. -/
theorem tk_wait {X : ChX} (g : ChG X) {s : EnS} {d : DcS} (h : RelE X s d) (hp : (tkS X false s (popR s.tm).1.length).1.ph = 1) :
    (∃ k, (tkS X false s (popR s.tm).1.length).1.edge = some k ∧ k < X.x.edges.length) ∧ (tkS X false s (popR s.tm).1.length).1.tm = [] ∧ (tkS X false s (popR s.tm).1.length).2 = [] ∧ (tkS X false s (popR s.tm).1.length).1.since = s.since ∧ (tkS X false s (popR s.tm).1.length).1.now = s.now + 1 := by
  obtain ⟨l1, fin, e, h16, hf⟩ := tick_pre g h
  have e2 : tkS X false s (popR s.tm).1.length = fin.foldl (tickStep X false) ({ s with now := s.now + 1, tm := (popR s.tm).2, opn := l1.foldl (fun n i => n ||| bitN ((i : Nat) : Int)) s.opn }, []) := by
    unfold tkS
    rw [List.take_length, e, List.foldl_append, foldO l1 _ _ h16]
  rw [e2] at hp ⊢
  rcases hf with rfl | ⟨hf, ht, k, hk, hkl⟩
  · have hp : s.ph = 1 := hp
    have htm := h.tm
    unfold TmRel at htm
    cases he : s.edge with
    | none => rw [he] at htm; rw [htm.1] at hp; cases hp
    | some k =>
      rw [he] at htm
      obtain ⟨hk, ⟨_, _, _, e⟩ | ⟨h1, _⟩ | ⟨h1, _⟩ | ⟨h1, _⟩⟩ := htm
      · refine ⟨⟨k, rfl, hk⟩, ?_, rfl, rfl, rfl⟩
        show (popR s.tm).2 = []
        rw [e]; rfl
      · rw [h1] at hp; cases hp
      · rw [h1] at hp; cases hp
      · rw [h1] at hp; cases hp
  · exfalso
    have hC : Core X { s with now := s.now + 1, tm := (popR s.tm).2, opn := l1.foldl (fun n i => n ||| bitN ((i : Nat) : Int)) s.opn } ⟨s.mode, s.edge, s.ph, s.now + 1, s.since, 0, s.held⟩ := ⟨rfl, rfl, rfl, rfl, rfl, Nat.le_succ_of_le h.past, h.len, ht⟩
    rcases hf with rfl | rfl
    · have := (come1_out (live := false) g hkl hC hk).wait hp
      cases this
    · have := (over1_out (live := false) g hC).wait hp
      cases this
theorem EngAt.typed {w : World} {b : Nat} {v : ImgV} {x : Img} {vc : CrtV} {c : Crt} {s : EnS} {bs : List Nat} (h : EngAt w b v x vc c s bs) {base e size n : Nat} {u : Value} {xs : List Value} (ho : w.ownsRow base e size u n xs) (h1 : e ≠ 69) (h2 : e ≠ 98) : ∀ y, u.ownBlock = some y → y ∉ b :: bs := fun y hy hm => by
  obtain ⟨A, q⟩ := h.tq
  rcases List.mem_cons.1 hm with rfl | hm
  · exact unown_ne ho q.blk h1 hy
  · obtain ⟨cs, hb, _⟩ := q.typed y hm
    exact unown_ne ho hb h2 hy
theorem come1_len (X : ChX) (l : Bool) (s : EnS) : (come1 X l s).2.length ≤ 5 := by
  have h1 := over1_len X l
  unfold come1 comeW
  dsimp only
  split
  · simp
  · rw [List.length_cons]
    have := h1 { s with mode := eTo X.x (s.edge.getD 0), ph := 4 }
    omega
/-- What Tick's loop keeps. -/
def TkI (w : World) (b : Nat) (v : ImgV) (x : Img) (vc : CrtV) (c : Crt) (bs : List Nat) (ids : List Nat) (Ai : Option Addr) (ci : Nat) (r : EnS × List Nw) (A : Option Addr) (p : Nat) (W : World) : Prop :=
  ∃ bs1, EngAt W b v x vc c r.1 bs1 ∧ (∀ y ∈ bs1, y ∈ bs ∨ w.heap.size ≤ y) ∧ Keep (b :: bs) w W ∧ W.ownsRow w.heap.size 63 6 (.slice A r.2.length p) r.2.length (newsV r.2) ∧ W.ownsRow w.heap.size 3 1 (.slice Ai ids.length ci) ids.length (natI ids)
section
variable {w W w13 w14 : World} {b : Nat} {v : ImgV} {x : Img} {vc : CrtV} {c : Crt} {bs bs1 bs2 ids : List Nat} {Ai A A2 : Option Addr} {ci p p2 : Nat} {r r2 : EnS × List Nw}
theorem tk_keep {s : EnS} (E : EngAt W b v x vc c s bs1) (k : Keep (b :: bs1) W w13) (h1 : W.ownsRow w.heap.size 63 6 (.slice A r.2.length p) r.2.length (newsV r.2)) (h2 : W.ownsRow w.heap.size 3 1 (.slice Ai ids.length ci) ids.length (natI ids)) :
    w13.ownsRow w.heap.size 63 6 (.slice A r.2.length p) r.2.length (newsV r.2) ∧ w13.ownsRow w.heap.size 3 1 (.slice Ai ids.length ci) ids.length (natI ids) :=
  ⟨own_keep h1 k (E.typed h1 (by decide) (by decide)), own_keep h2 k (E.typed h2 (by decide) (by decide))⟩
theorem tk_call {s0 : EnS} {rn : EnS × List Nw} (h0 : EngAt w b v x vc c s0 bs) (hb : ∀ y ∈ bs1, y ∈ bs ∨ w.heap.size ≤ y) (hK : Keep (b :: bs) w W) (h2 : w13.ownsRow w.heap.size 3 1 (.slice Ai ids.length ci) ids.length (natI ids))
    (h1 : w13.ownsRow w.heap.size 63 6 (.slice A r.2.length p) r.2.length (newsV r.2))
    (E13 : EngAt w13 b v x vc c rn.1 bs2) (hb13 : ∀ y ∈ bs2, y ∈ bs1 ∨ W.heap.size ≤ y) (k13 : Keep (b :: bs1) W w13) {v' : Value}
    (o14 : w14.ownsRow w.heap.size 63 6 v' (r.2.length + rn.2.length) (newsV r.2 ++ newsV rn.2)) (k14 : Keep (Value.slice A r.2.length p).ownBlock.toList w13 w14) :
    ∃ A' p', v' = .slice A' (r.2 ++ rn.2).length p' ∧ TkI w b v x vc c bs ids Ai ci (rn.1, r.2 ++ rn.2) A' p' w14 := by
  obtain ⟨A', p', rfl⟩ := own_shape o14
  have hsz := hK.size
  have hl : (r.2 ++ rn.2).length = r.2.length + rn.2.length := List.length_append
  have hb2 : ∀ y ∈ bs2, y ∈ bs ∨ w.heap.size ≤ y := fun y hy => by
    rcases hb13 y hy with hy | hy
    · exact hb y hy
    · exact .inr (by omega)
  have K13 : Keep (b :: bs) w w13 := hK.trans k13 (fun y hy hlt => by
    rcases List.mem_cons.1 hy with rfl | hy
    · simp
    · rcases hb y hy with hy | hy
      · simp [hy]
      · omega)
  have hrow : ∀ y ∈ (Value.slice A r.2.length p).ownBlock.toList, w.heap.size ≤ y := row_baseT h1
  have hoff : ∀ y ∈ (Value.slice A r.2.length p).ownBlock.toList, y ∉ b :: bs2 := fun y hy => E13.typed h1 (by decide) (by decide) y (by simpa using hy)
  refine ⟨A', p', by rw [hl], bs2, h0.aside E13 K13 hb2 k14 (fun y hy => ⟨hrow y hy, fun hm => hoff y hy (by simp [hm])⟩), hb2, K13.trans k14 (fun y hy hlt => by have := hrow y hy; omega), ?_, ?_⟩
  · dsimp only
    rw [hl, show newsV (r.2 ++ rn.2) = newsV r.2 ++ newsV rn.2 from List.flatMap_append]
    exact o14
  · refine own_keep h2 k14 (fun y hy hm => ?_)
    obtain ⟨cs, fr, hh⟩ := row_typed h1 y hm
    exact unown_ne h2 hh (by decide) hy
end
section
variable {w : World} {b : Nat} {v : ImgV} {X : ChX} {vc : CrtV} {c : Crt} {s : EnS} {d : DcS} {bs : List Nat}
set_option maxRecDepth 100000 in
set_option maxHeartbeats 2000000 in
theorem etick_any (m : ChM X c) (h : EngAt w b v X.x vc c s bs) (hR : RelE X s d) (hnow : s.now < 4000000000000000000) (live : Nat) :
    Calls Tryd.prog 8 #[.pointer (some ⟨b, 0, none⟩), .int .u32 (live : Int)] w (RetE w b v X.x vc c bs (tickE X s (decide (live ≠ 0)))) := by
  obtain ⟨lb, hlb⟩ : ∃ lb, decide (live ≠ 0) = lb := ⟨_, rfl⟩
  rw [hlb]
  have HLB := Lib.hid hlb
  clear hlb
  have c10 := h.c10
  have f10 := h.fr 10
  obtain ⟨n1, hn1⟩ : ∃ n1, s.now + 1 = n1 := ⟨_, rfl⟩
  have hw : IntKind.i64.wrap ((s.now : Int) + 1) = (n1 : Int) := by rw [IntWalk.i64_in _ (by omega)]; omega
  have E1 := h.put (i := 10) (u := .int .i64 (n1 : Int)) (s' := { s with now := n1 }) (by decide) (fun A => rfl) rfl
  have k1 : Keep (b :: bs) w (w.setCell ⟨b, 10, none⟩ (.int .i64 (n1 : Int))) := (Keep.refl _ w).setCell (p := ⟨b, 10, none⟩) (fun _ => List.mem_cons_self) _
  obtain ⟨A1, q1⟩ := E1.tq
  have HN := Lib.hid hn1
  clear hn1
  obtain ⟨hpos, hl64⟩ := tm_small m.g hR
  have HTK := Lib.hid (dtick_any b _ 13 _ _ bs _ q1 hpos (by decide) hl64)
  have HE := Lib.hid h
  have HE1 := Lib.hid E1
  have HK1 := Lib.hid k1
  have hil := popR_len s.tm
  obtain ⟨ids, hids⟩ : ∃ ids, (popR s.tm).1 = ids := ⟨_, rfl⟩
  rw [hids] at hil
  replace hil : ids.length ≤ 64 := Nat.le_trans hil hl64
  have HAT : Hid (∀ j, j < ids.length → TkK X lb s j) := fun j hj => tk_at m.g hR (by rw [hids]; exact hj)
  have HNX : Hid (∀ j, (hj : j < ids.length) → tkS X lb s (j + 1) = tickStep X lb (tkS X lb s j) ids[j]) := fun j hj => by
    subst hids
    exact tkS_next hj
  have HPS := Lib.hid hR.past
  clear h E1 k1 q1
  go_enter Tryd.func8, Tryd.ntmps8
  go_upto_region 3 with fail
  clear c10 f10 hw
  generalize w.setCell ⟨b, 10, none⟩ (.int .i64 (n1 : Int)) = w1 at *
  obtain rfl := HN.out
  clear HN
  rw [hids] at HTK
  go_wp2_with (go_at_call 21; refine HTK.out.mono ?_; rintro _ w2 ⟨Ai, ci, rfl, oi, hq⟩)
  obtain ⟨bs2, E2, hb2, k2⟩ := HE1.out.timed hq
  have hs1 := HK1.out.size
  have oi2 := own_base oi hs1
  have HI0 : Hid (TkI w b v X.x vc c bs ids Ai ci (tkS X lb s 0) none 0 w2) := ⟨bs2, E2, fun y hy => (hb2 y hy).imp id (fun hy => Nat.le_trans hs1 hy), HK1.out.trans k2 (fun y hy _ => hy), World.ownsRow_nil _ _ _ _, oi2⟩
  clear E2 hb2 k2 hs1 oi2 oi hq HTK HE1 HK1
  go_loopw [5, 7, 20, 34, 41] (fun v5 v7 v20 v34 v41 wr => ∃ (j : Nat) (A : Option Addr) (p : Nat), j ≤ ids.length ∧ v5 = .slice A (tkS X lb s j).2.length p ∧ v20 = .int .i64 (j : Int) ∧ TkI w b v X.x vc c bs ids Ai ci (tkS X lb s j) A p wr) (fun _ _ v20 _ _ _ => ids.length - (intOf v20).toNat)
  case atStart => exact ⟨0, none, 0, Nat.zero_le _, rfl, rfl, HI0.out⟩
  case round =>
    obtain ⟨j, A, p, hj, rfl, rfl, hI⟩ := hrel
    by_cases hlt : j < ids.length
    · have hK := HAT.out j hlt
      have hN := HNX.out j hlt
      have hsm := hK.small
      have hlt16 := hK.lt
      have hnews := hK.news
      have hop := hK.opn
      rw [hids, List.getElem?_eq_getElem hlt, Option.getD_some] at hsm hlt16
      clear hK
      obtain ⟨bs1, E1, hb1, k1, o1, oi1⟩ := hI
      obtain ⟨gi, oo, u, hAi, hgi, hu, hcu⟩ := (Reads.of_own oi1).at_ hlt
      obtain rfl : u = .int .i64 (ids[j] : Int) := by
        unfold natI at hu
        rw [List.getElem?_map, List.getElem?_eq_getElem hlt] at hu
        exact (Option.some.inj hu).symm
      subst hAi
      have hcj := hcu
      have p0 : (0 : Int) ≤ (j : Int) := by omega
      have p1 : (j : Int) < (ids.length : Int) := by omega
      have HNT := Lib.hid hN
      have HJJ : Hid (True) := trivial
      have hsi : (tkS X lb s j).1.since = s.since := by rw [hop]
      have hno : (tkS X lb s j).1.now = s.now + 1 := by rw [hop]
      have hps := HPS.out
      clear hN hgi hu hcu
      generalize tkS X lb s j = r at *
      generalize ids[j] = id at *
      by_cases h16 : id < 16
      · have HTS : Hid (tickStep X lb r id = ({ r.1 with opn := r.1.opn ||| bitN (id : Int) }, r.2)) := by show _ = _; unfold tickStep; rw [if_neg (by omega), if_neg (by omega)]
        have HWI := fun w' => Lib.hid (with_any r.1.opn (id : Int) w' (hlt16 h16))
        have c12 := E1.c12
        have f12 := E1.fr 12
        have q1 : ((id : Int) == 16) = false := beq_eq_false_iff_ne.2 (by omega)
        have q2 : ((id : Int) == 17) = false := beq_eq_false_iff_ne.2 (by omega)
        have q3 : (id = 16) = False := eq_false (by omega)
        have q4 : (id = 17) = False := eq_false (by omega)
        have E9 := E1.put (i := 12) (u := .int .u32 ((r.1.opn ||| bitN (id : Int) : Nat) : Int)) (s' := { r.1 with opn := r.1.opn ||| bitN (id : Int) }) (by decide) (fun A => rfl) rfl
        have kk : Keep (b :: bs1) wr (wr.setCell ⟨b, 12, none⟩ (.int .u32 ((r.1.opn ||| bitN (id : Int) : Nat) : Int))) := (Keep.refl _ wr).setCell (p := ⟨b, 12, none⟩) (fun _ => List.mem_cons_self) _
        obtain ⟨o2, oi2⟩ := tk_keep E1 kk o1 oi1
        have HI2 : Hid (TkI w b v X.x vc c bs ids (some ⟨gi, oo, none⟩) ci ({ r.1 with opn := r.1.opn ||| bitN (id : Int) }, r.2) A p (wr.setCell ⟨b, 12, none⟩ (.int .u32 ((r.1.opn ||| bitN (id : Int) : Nat) : Int)))) := ⟨bs1, E9, hb1, k1.trans kk (fun y hy hlt => by
          rcases List.mem_cons.1 hy with rfl | hy
          · simp
          · rcases hb1 y hy with hy | hy
            · simp [hy]
            · omega), o2, oi2⟩
        clear hsm hlt16 hnews hop E1 E9 kk o1 oi1 o2 oi2 hb1 k1 HI0 HAT HNX
        go_wp2_with (go_at_call 24; refine (HWI _).out.mono ?_; rintro _ wx ⟨rfl, rfl⟩)
        go_roundw
        case rel => exact ⟨j + 1, A, p, hlt, by rw [HNT.out, HTS.out], by go_num, by rw [HNT.out, HTS.out]; exact HI2.out⟩
        case measure => simp [intOf] <;> omega
      · obtain ⟨hid, htm, k, he, hk⟩ := hsm.resolve_left h16
        clear h16
        rcases hid with rfl | rfl
        · skip
          have hcl := (ecome1_any m E1 (eshiftA m.g) he hk htm (by omega) (by omega) live)
          rw [HLB.out] at hcl
          have HCL := Lib.hid hcl
          have hln := come1_len X lb r.1
          have HTS : Hid (tickStep X lb r 16 = ((come1 X lb r.1).1, r.2 ++ (come1 X lb r.1).2)) := show _ = _ from rfl
          obtain ⟨rn, hrn⟩ : ∃ rn, come1 X lb r.1 = rn := ⟨_, rfl⟩
          rw [hrn] at hln HTS
          rw [hrn] at HCL
          have HNS := Lib.hid hnews
          have HH0 : Hid (r.2.length = 0) := by show _ = _; rw [hnews]; rfl
          have HJ1 := HJJ.out
          clear hcl hrn hnews hsm hlt16 hop
          go_wp2_with (first
            | (go_at_call 22; refine HCL.out.mono ?_; rintro _ w13 ⟨A13, p13, bs3, rfl, o13, E13, hb13, k13⟩)
            | (refine stop_at 40 rfl ?_))
          constructor
          obtain ⟨o1b, oi1b⟩ := tk_keep E1 k13 o1 oi1
          have hsz : w.heap.size ≤ w13.heap.size := Nat.le_trans k1.size k13.size
          have h0 := HH0.out
          refine wpList_append_reads rfl (.tmp 36) (.tmp 39) 39 rfl slice_news o1b rfl (Reads.of_own o13) rfl (newsV_one _) hsz (by omega) (by unfold maxLen; omega) ?_
          intro v' w14 o14 k14 _
          obtain ⟨A', p', rfl, hI'⟩ := tk_call HE.out hb1 k1 oi1b o1b E13 hb13 k13 o14 k14
          have HI' := Lib.hid hI'
          clear o14 k14 o13 E13 hb13 k13 o1b oi1b hsz h0 hI' HCL E1 o1 oi1 hcj
          go_wp2_with fail
          go_roundw
          case rel => exact ⟨j + 1, A', p', hlt, by rw [HNT.out, HTS.out]; show _ = Value.slice _ (r.2 ++ rn.2).length _; rw [List.length_append], by go_num, by rw [HNT.out, HTS.out]; exact HI'.out⟩
          case measure => simp [intOf] <;> omega
        · skip
          have hcl := (eover_any m E1 (eshiftA m.g) he htm (by omega) live)
          rw [HLB.out] at hcl
          have HCL := Lib.hid hcl
          have hln := over1_len X lb r.1
          have HTS : Hid (tickStep X lb r 17 = ((over1 X lb r.1).1, r.2 ++ (over1 X lb r.1).2)) := show _ = _ from rfl
          obtain ⟨rn, hrn⟩ : ∃ rn, over1 X lb r.1 = rn := ⟨_, rfl⟩
          rw [hrn] at hln HTS
          rw [hrn] at HCL
          have HNS := Lib.hid hnews
          have HH0 : Hid (r.2.length = 0) := by show _ = _; rw [hnews]; rfl
          have HJ1 := HJJ.out
          clear hcl hrn hnews hsm hlt16 hop
          go_wp2_with (first
            | (go_at_call 23; refine HCL.out.mono ?_; rintro _ w13 ⟨A13, p13, bs3, rfl, o13, E13, hb13, k13⟩)
            | (refine stop_at 47 rfl ?_))
          constructor
          obtain ⟨o1b, oi1b⟩ := tk_keep E1 k13 o1 oi1
          have hsz : w.heap.size ≤ w13.heap.size := Nat.le_trans k1.size k13.size
          have h0 := HH0.out
          refine wpList_append_reads rfl (.tmp 43) (.tmp 46) 39 rfl slice_news o1b rfl (Reads.of_own o13) rfl (newsV_one _) hsz (by omega) (by unfold maxLen; omega) ?_
          intro v' w14 o14 k14 _
          obtain ⟨A', p', rfl, hI'⟩ := tk_call HE.out hb1 k1 oi1b o1b E13 hb13 k13 o14 k14
          have HI' := Lib.hid hI'
          clear o14 k14 o13 E13 hb13 k13 o1b oi1b hsz h0 hI' HCL E1 o1 oi1 hcj
          go_wp2_with fail
          go_roundw
          case rel => exact ⟨j + 1, A', p', hlt, by rw [HNT.out, HTS.out]; show _ = Value.slice _ (r.2 ++ rn.2).length _; rw [List.length_append], by go_num, by rw [HNT.out, HTS.out]; exact HI'.out⟩
          case measure => simp [intOf] <;> omega
    · obtain rfl : j = ids.length := by omega
      have p1 : ¬ (ids.length : Int) < (ids.length : Int) := by omega
      have p2 : decide ((ids.length : Int) < (ids.length : Int)) = false := by simp
      have hte := tkS_end (X := X) (lb := lb) (s := s)
      have htw := fun (e : lb = false) => e ▸ tk_wait m.g hR
      rw [hids] at hte htw
      have HTE := Lib.hid hte
      have HTW := Lib.hid htw
      have hps := HPS.out
      obtain ⟨bs1, E1, hb1, k1, o1, oi1⟩ := hI
      have c8 := E1.c8
      clear hte htw HI0 HAT HNX hids
      generalize tkS X lb s ids.length = r at *
      by_cases hph : r.1.ph = 1
      · have c8' : wr.cell? ⟨b, 8, none⟩ = some (.int .i64 1) := by rw [c8, hph]; rfl
        clear c8
        cases lb with
        | false =>
          have hlv : live = 0 := by simpa using HLB.out
          subst hlv
          obtain ⟨⟨k, he, hk⟩, htm, hnews, hsi, hno⟩ := HTW.out rfl hph
          have hcl := ecome1_any m E1 (eshiftA m.g) he hk htm (by omega) (by omega) 0
          rw [HLB.out] at hcl
          have HCL := Lib.hid hcl
          have hln := come1_len X false r.1
          obtain ⟨rn, hrn⟩ : ∃ rn, come1 X false r.1 = rn := ⟨_, rfl⟩
          have HC : Hid (tickE X s false = (rn.1, r.2 ++ rn.2)) := by show _ = _; rw [HTE.out, if_pos ⟨hph, rfl⟩, hrn]
          rw [hrn] at hln
          rw [hrn] at HCL
          have HH0 : Hid (r.2.length = 0) := by show _ = _; rw [hnews]; rfl
          have HPH := Lib.hid hph
          clear hcl hrn hnews hph HTE HTW
          go_wp2_with (first
            | (go_at_call 22; refine HCL.out.mono ?_; rintro _ w13 ⟨A13, p13, bs3, rfl, o13, E13, hb13, k13⟩)
            | (refine stop_at 62 rfl ?_))
          constructor
          obtain ⟨o1b, oi1b⟩ := tk_keep E1 k13 o1 oi1
          have hsz : w.heap.size ≤ w13.heap.size := Nat.le_trans k1.size k13.size
          have h0 := HH0.out
          refine wpList_append_reads rfl (.tmp 58) (.tmp 61) 39 rfl slice_news o1b rfl (Reads.of_own o13) rfl (newsV_one _) hsz (by omega) (by unfold maxLen; omega) ?_
          intro v' w14 o14 k14 _
          obtain ⟨A', p', rfl, hI'⟩ := tk_call HE.out hb1 k1 oi1b o1b E13 hb13 k13 o14 k14
          have HI' := Lib.hid hI'
          clear o14 k14 o13 E13 hb13 k13 o1b oi1b hsz h0 hI' HCL E1 o1 oi1
          go_wp2_with fail
          go_ret
          rw [HC.out]
          obtain ⟨bs4, q1, q2, q3, q4, q5⟩ := HI'.out
          refine ⟨A', p', bs4, ?_, q4, q1, q2, q3⟩
          show Ending.returned (.slice A' (r.2.length + rn.2.length) p') = .returned (.slice A' (r.2 ++ rn.2).length p')
          rw [List.length_append]
        | true =>
          have hlv : live ≠ 0 := by simpa using HLB.out
          have p3 : ¬ (live : Int) = 0 := by omega
          have HC : Hid (tickE X s true = r) := by show _ = _; rw [HTE.out, if_neg (by rintro ⟨_, h⟩; cases h)]
          have hfin : Hid (RetE w b v X.x vc c bs r (.returned (.slice A r.2.length p)) wr) := ⟨A, p, bs1, rfl, o1, E1, hb1, k1⟩
          clear E1 hb1 k1 o1 oi1 HTW HTE hlv
          go_wp2_with fail
          go_ret
          rw [HC.out]
          exact hfin.out
      · have p3 : ¬ (r.1.ph : Int) = 1 := by omega
        have HC : Hid (tickE X s lb = r) := by show _ = _; rw [HTE.out, if_neg (by rintro ⟨h, _⟩; exact hph h)]
        have hfin : Hid (RetE w b v X.x vc c bs r (.returned (.slice A r.2.length p)) wr) := ⟨A, p, bs1, rfl, o1, E1, hb1, k1⟩
        clear E1 hb1 k1 o1 oi1 HTW HTE hph
        go_wp2_with fail
        go_ret
        rw [HC.out]
        exact hfin.out
end
end Go.Proofs.YteflgdnekflbbaaDoor
