/- Rows of texts: slices.Equal, the law's rows, first and same over any iterator of rows whose contract is known; great. No condition. -/
import Derived.Test.YteocldlglklnjaaDoorShMod
namespace Go.Proofs.YteocldlglklnjaaDoor
open Go.RowKit
attribute [local go_sem] Oper.semAt_some

theorem slice_rowsS : SliceOf Tryd.prog 62 55 1 24 := ⟨Tryd.underlying62, by kernel_rfl, by decide⟩
theorem run_eql_func_nil {P : Program} {t : TypeId} {ps rs : Array TypeId} {vr : Bool} (ht : P.underlying t = some (.func ps rs vr)) (f : Fn) (x y : Array Value) (w : World) :
    (binOp .eql t (.func f x y) .nilFunc).run P w = .ok (.bool false) w := by
  have h : ∀ d : Nat, (Op.equalIn (d + 1) t (.func f x y) .nilFunc).run P w = .ok false w := fun d => by
    simp [Op.equalIn, run_underlying ht]
  simp only [binOp]
  simp [Op.equal, Op.maxDepth, h 9999]
theorem str_ne {a b : ByteArray} (h : a ≠ b) : (a.toList == b.toList) = false := by
  rw [ByteArray.toList_eq, ByteArray.toList_eq, beq_eq_false_iff_ne]
  intro e
  obtain ⟨x⟩ := a
  obtain ⟨y⟩ := b
  exact h (congrArg ByteArray.mk (Array.toList_inj.1 e))
/-- Rows of texts in memory, by their slices. -/
structure TextsAt (w : World) (vs : List Value) (ll : List (List ByteArray)) : Prop where
  len : vs.length = ll.length
  at_ : ∀ i, (h : i < ll.length) → ∃ A c, vs[i]? = some (.slice A ll[i].length c) ∧ TxtAt w A ll[i]
theorem TextsAt.nil (w : World) : TextsAt w [] [] := ⟨rfl, fun i h => absurd h (by simp)⟩
theorem TextsAt.snoc {w : World} {vs : List Value} {ll : List (List ByteArray)} (h : TextsAt w vs ll) {A : Option Addr} {l : List ByteArray} {c : Nat} (hl : TxtAt w A l) : TextsAt w (vs ++ [.slice A l.length c]) (ll ++ [l]) := by
  refine ⟨by simp [h.len], fun i hi => ?_⟩
  rcases Nat.lt_or_ge i ll.length with h1 | h1
  · obtain ⟨A', c', h2, h3⟩ := h.at_ i h1
    refine ⟨A', c', ?_, ?_⟩
    · rw [List.getElem?_append_left (by rw [h.len]; exact h1), h2, List.getElem_append_left h1]
    · rw [List.getElem_append_left h1]; exact h3
  · obtain rfl : i = ll.length := by simp at hi; omega
    refine ⟨A, c, ?_, ?_⟩
    · rw [List.getElem?_append_right (by rw [h.len]; omega)]
      simp [h.len]
    · simpa using hl
theorem TextsAt.mono {w w' : World} {vs : List Value} {ll : List (List ByteArray)} (h : TextsAt w vs ll) (hk : ∀ A l, TxtAt w A l → TxtAt w' A l) : TextsAt w' vs ll :=
  ⟨h.len, fun i hi => (h.at_ i hi).imp fun _ => fun ⟨c, a, b⟩ => ⟨c, a, hk _ _ b⟩⟩
theorem TextsAt.keep0 {w w' : World} {vs : List Value} {ll : List (List ByteArray)} (h : TextsAt w vs ll) (k : Keep [] w w') : TextsAt w' vs ll := h.mono (fun _ _ ht => ht.keep0 k)
/-- A world in which blocks of other types alone have changed. -/
theorem TxtAt.keepF {F : List Nat} {w w' : World} {A : Option Addr} {l : List ByteArray} (h : TxtAt w A l) (k : Keep F w w') (hF : ∀ y ∈ F, ∃ cs t fr, w.heap[y]? = some (.cells cs t fr) ∧ t ≠ 9) : TxtAt w' A l :=
  h.same k.size (fun g cs fr hg => k.block g (Array.getElem?_eq_some_iff.1 hg).1 (fun hm => by
    obtain ⟨cs', t', fr', h1, h2⟩ := hF g hm
    rw [hg] at h1; cases h1; exact h2 rfl))

set_option maxRecDepth 100000 in
set_option maxHeartbeats 2000000 in
theorem sEqual_any (A B : Option Addr) (c d : Nat) (l m : List ByteArray) (w : World) (hA : Reads w 1 A l.length (strsV l)) (hB : Reads w 1 B m.length (strsV m)) (hl : l.length ≤ 100000) (hm : m.length ≤ 100000) :
    Calls Tryd.prog 10 #[.slice A l.length c, .slice B m.length d] w fun e w' => e = .returned (.bool (decide (l = m))) ∧ Keep [] w w' := by
  by_cases hlen : l.length = m.length
  · have HLN := Lib.hid hlen
    have HA := Lib.hid hA
    have HB := Lib.hid hB
    have q0 : decide ((l.length : Int) = (m.length : Int)) = true := decide_eq_true (by omega)
    clear hA hB
    go_enter Tryd.func10, Tryd.ntmps10
    go_wp2
    go_loopw [13] (fun vi wr => ∃ k : Nat, k ≤ l.length ∧ vi = .int .i64 (k : Int) ∧ Hid (l.take k = m.take k) ∧ Keep [] w wr) (fun vi _ => l.length - (intOf vi).toNat)
    case atStart => exact ⟨0, Nat.zero_le _, rfl, show _ = _ from rfl, Keep.refl _ _⟩
    case round =>
      obtain ⟨k, hk, rfl, HE, hK⟩ := hrel
      by_cases hlt : k < l.length
      · have hkm : k < m.length := by omega
        obtain ⟨b1, o1, u1, hA1, _, hu1, hc1⟩ := (HA.out.keep0 hK).at_ hlt
        obtain ⟨b2, o2, u2, hB1, _, hu2, hc2⟩ := (HB.out.keep0 hK).at_ hkm
        have e1 : u1 = .string l[k] := by simpa [strsV, List.getElem?_eq_getElem hlt] using hu1.symm
        have e2 : u2 = .string m[k] := by simpa [strsV, List.getElem?_eq_getElem hkm] using hu2.symm
        subst e1 e2
        have p0 : (0 : Int) ≤ (k : Int) := by omega
        have p1 : (k : Int) < (l.length : Int) := by omega
        have p2 : (k : Int) < (m.length : Int) := by omega
        rw [hA1, hB1]
        have hF : ∀ w', Keep [] wr w' → w'.cell? ⟨b1, o1 + k, none⟩ = some (.string l[k]) ∧ w'.cell? ⟨b2, o2 + k, none⟩ = some (.string m[k]) := fun w' kk => ⟨(kk.cell (p := ⟨b1, o1 + k, none⟩) (World.block_lt_of_cell? _ _ hc1) (by simp)).trans hc1, (kk.cell (p := ⟨b2, o2 + k, none⟩) (World.block_lt_of_cell? _ _ hc2) (by simp)).trans hc2⟩
        have HS : Hid (l[k] = m[k] → l.take (k + 1) = m.take (k + 1)) := fun h => by
          rw [List.take_succ_eq_append_getElem hlt, List.take_succ_eq_append_getElem hkm, HE.out, h]
        have HN : Hid (l[k] ≠ m[k] → decide (l = m) = false) := fun h => decide_eq_false (fun e => h (by subst e; rfl))
        clear hc1 hc2 hu1 hu2 HE
        generalize l[k] = s1 at *
        generalize m[k] = s2 at *
        by_cases he : s1 = s2
        · subst he
          have HS1 := Lib.hid (HS.out rfl)
          clear HS HN
          go_wp2
          refine wp_region_flow (Keep [] wr) rfl (by kernel_rfl) (Keep.refl _ _).drew ?_
          repeat (refine fl_val (v := ?_) (by rfl) ?_ ?_; rotate_left; (intro w' hS; obtain ⟨f1,f2⟩ := hF w' hS; go_simp; with_reducible rfl); simp only [Act.put, List.setIfInBounds_toArray, List.set_cons_zero, List.set_cons_succ])
          refine fl_nil ?_
          intro w4 hS
          have hK4 := hK.then hS
          clear hS hF
          go_wp2
          go_roundw
          case rel => exact ⟨k + 1, by omega, by go_num, HS1, hK4⟩
          case measure => simp [intOf]; omega
        · have HD := Lib.hid (HN.out he)
          have z1 : (s1.toList == s2.toList) = false := str_ne he
          clear HS HN
          go_wp2
          refine wp_region_flow (Keep [] wr) rfl (by kernel_rfl) (Keep.refl _ _).drew ?_
          repeat (refine fl_val (v := ?_) (by rfl) ?_ ?_; rotate_left; (intro w' hS; obtain ⟨f1,f2⟩ := hF w' hS; go_simp; with_reducible rfl); simp only [Act.put, List.setIfInBounds_toArray, List.set_cons_zero, List.set_cons_succ])
          refine fl_nil ?_
          intro w4 hS
          have hK4 := hK.then hS
          clear hS hF
          go_wp2
          go_ret
          exact ⟨by rw [HD.out]; rfl, hK4⟩
      · obtain rfl : k = l.length := by omega
        have HD : Hid (decide (l = m) = true) := by
          show _ = _
          have := HE.out
          rw [List.take_length, hlen, List.take_length] at this
          exact decide_eq_true this
        have p2 : decide ((l.length : Int) < (l.length : Int)) = false := by simp
        go_wp2
        go_ret
        exact ⟨by rw [HD.out]; rfl, hK⟩
  · have q0 : decide ((l.length : Int) = (m.length : Int)) = false := decide_eq_false (by omega)
    have HD : Hid (decide (l = m) = false) := decide_eq_false (fun h => hlen (by rw [h]))
    clear hA hB
    go_enter Tryd.func10, Tryd.ntmps10
    go_wp2
    go_ret
    exact ⟨by rw [HD.out]; rfl, Keep.refl _ _⟩

set_option maxRecDepth 100000 in
set_option maxHeartbeats 2000000 in
theorem rows_any {α : Type} (f : α → List ByteArray) (xs : List α) (g : Nat) (lb : Array Value) (B0 : Nat) (w : World) (hB : B0 ≤ w.heap.size) (hl : xs.length ≤ 100000) (hen : ∀ args w, (callFunc g args).run Tryd.prog w = .ok (.enter g args) w)
    (hseq : ∀ W, Keep [] w W → SeqQ Fence.wide 8 Tryd.prog LoN g lb (EncT f) (KpU UsS B0 (W.heap.size + 2)) xs W) :
    Calls Tryd.prog 15 #[.func (.func g) #[] lb] w fun e w' => ∃ A c vs, e = .returned (.slice A xs.length c) ∧ Reads w' 1 A xs.length vs ∧ TextsAt w' vs (xs.map f) ∧ Keep [] w w' := by
  rw [← callsIn_wide (n := 9)]
  obtain ⟨W0, hW0⟩ : ∃ W0, w.alloc (.cells #[.slice none 0 0] 62) = W0 := ⟨_, rfl⟩
  have b0 : Blk W0 w.heap.size 62 #[.slice none 0 0] := by rw [← hW0]; exact Blk.new _ _ _
  have K0 : Keep [] w W0 := by rw [← hW0]; exact (Keep.refl [] w).alloc _
  have hz0 : Hid (W0.heap.size = w.heap.size + 1) := by show _ = _; rw [← hW0]; simp
  have hss := hseq W0 K0
  have HW := Lib.hid hW0
  have hnn := fun f x y => run_eql_func_nil (P := Tryd.prog) Tryd.underlying58 f x y
  clear hW0 hseq
  refine callsIn_of_wp_marks Tryd.func15 rfl trivial ?_ rfl
  simp only [Tryd.ntmps15, List.size_toArray, List.length_cons, List.length_nil, Nat.reduceAdd, Nat.reduceSub, Array.replicate_succ, Array.replicate_zero, List.push_toArray, List.append_toArray, List.nil_append, List.cons_append]
  gi_wp2_with (rw [HW.out])
  refine wpIn_rangeQ (F := Fence.wide) (n := 9) (Lo := LoN) (ps := #[8]) rfl (by omega) (gf := g) (lb := lb) rfl trivial hen
    hss KpU.trans (fun W o o' h1 h2 => kpu_put o' (by have := hz0.out; omega) (by omega) h1 h2) (Below.refl _ _) (fun x W args h => by obtain ⟨A, cp, rfl, _⟩ := h; rfl)
    (fun pre W' => ∃ V vs, Blk W' w.heap.size 62 #[V] ∧ W'.ownsRow W0.heap.size 55 1 V pre.length vs ∧ Keep [w.heap.size] W0 W' ∧ TextsAt W' vs (pre.map f))
    (fun _ _ _ => False)
    ?hI (fun _ _ _ _ _ hs _ _ => hs) ⟨_, [], b0, World.ownsRow_nil _ _ _ _, Keep.refl _ _, TextsAt.nil _⟩
    (fun y a1 W' => ∃ A cp, TxtAt W' A (f y) ∧ a1 = { tmps := #[.func (.func g) #[] lb, undef, .slice none 0 0, .pointer (some ⟨w.heap.size, 0, none⟩), .slice A (f y).length cp, .func (.func g) #[] lb, .bool false, .func (.func g) #[] lb, .slice A (f y).length cp, undef, undef, undef, undef, undef], defers := [] })
    ?hPA ?hKa ?assign ?body ?done ?stop
  case hI =>
    rintro pre X Y row ⟨V, vs, h1, h2, h3, h4⟩ hg hr
    have hr' : ∀ r, row = some r → ∃ o : Obj, X.heap[r]? = some o ∧ o.isCells = false := fun r e => by
      obtain ⟨o, ho, ⟨_, h⟩ | ⟨_, h⟩⟩ := hr r e
      · exact ⟨o, ho, h⟩
      · exact h.elim
    obtain ⟨v', k1, k2, k3⟩ := box_rowT (β := Unit) (W2 := W0) (g := w.heap.size) (base := W0.heap.size) (e := 55) (tb := 62) (size := 1) (by have := hz0.out; omega) (fun _ => pre.length) (fun _ => vs) () X Y row ⟨V, h1, h2, h3⟩ hg hr
    obtain rfl : v' = V := by
      have e1 : Y.heap[w.heap.size]? = X.heap[w.heap.size]? := hg.block _ h1.lt (fun e => by
        obtain ⟨o, ho, hc⟩ := hr' _ e.symm
        rw [show X.heap[w.heap.size]? = _ from h1] at ho
        cases ho; cases hc)
      rw [show Y.heap[w.heap.size]? = _ from k1, show X.heap[w.heap.size]? = _ from h1] at e1
      simpa using e1
    exact ⟨v', vs, k1, k2, k3, h4.mono (fun _ _ ht => ht.own hg hr')⟩
  case hPA =>
    rintro y a1 _ X Y row ⟨A, cp, h, e⟩ hg hr
    exact ⟨A, cp, h.own hg (fun r e => ⟨_, (hr r e).2.choose_spec.1, (hr r e).2.choose_spec.2⟩), e⟩
  case hKa => exact fun W W2 hz k => kpu_keep0 k (by have := hz0.out; omega)
  case assign =>
    rintro l x args W K hz ⟨A, cp, rfl, ht⟩ hK
    gi_wp2
    exact hK _ _ (Keep.refl _ _) ⟨A, cp, ht, rfl⟩
  case body =>
    rintro l pre x a1 W hz ⟨V, vs, hv, hrow, hK, hT⟩ ⟨A, cp, ht, rfl⟩ hpre
    have hcv := hv.cell 0
    simp at hcv
    obtain ⟨A0, c0, rfl⟩ := own_shape hrow
    have hne := own_blk_ne hrow hv (by decide)
    have hBw : W0.heap.size ≤ W.heap.size := hK.size
    have hlen := hpre.length_le
    simp only [List.length_append, List.length_cons, List.length_nil] at hlen
    gi_wp2_with (first
      | (gi_at_builtin; refine wpListIn_append_one rfl (.tmp 9) (.tmp 11) 62 rfl slice_rowsS hrow rfl rfl (us := [.slice A (f x).length cp]) rfl (by simp [Value.oneCell']) hBw (by omega) (by unfold maxLen; omega) ?_; intro v' w1 hown1 hk1 hat1; obtain ⟨A', c', rfl⟩ := own_shape hown1; have hv1 := hv.keep hk1 (by simpa using hne); have hc1 := hv1.cell 0; have hf1 := hv1.frozen 0; simp at hc1))
    obtain ⟨n1, n2, n3⟩ := boxed_append hrow hv (by decide) hk1 hown1
    have hlt' := fun z hz => (hrow.lt z (by simpa using hz)).1
    have hz0o := hz0.out
    have hTy : ∀ z ∈ w.heap.size :: (Value.slice A0 pre.length c0).ownBlock.toList, ∃ cs t fr, W.heap[z]? = some (.cells cs t fr) ∧ t ≠ 9 := fun z hz => by
      rcases List.mem_cons.1 hz with rfl | hz
      · exact ⟨_, _, _, hv, by decide⟩
      · obtain ⟨cs, fr, h1⟩ := row_typed hrow z hz
        exact ⟨_, _, _, h1, by decide⟩
    refine ⟨n3.from (fun z hz => ?_), kpu_of n3 (fun z hz => ?_) (by omega), _, vs ++ [.slice A (f x).length cp], n1, ?_, ?_, ?_⟩
    · rcases List.mem_cons.1 hz with rfl | hz
      · exact .inl (by omega)
      · exact .inr (own_cells hrow z hz)
    · rcases List.mem_cons.1 hz with rfl | hz
      · exact ⟨by omega, _, _, _, hv, by decide⟩
      · obtain ⟨cs, fr, h1⟩ := row_typed hrow z hz
        exact ⟨by have := hlt' z (by simpa using hz); omega, cs, _, fr, h1, by decide⟩
    · rw [List.length_append]
      exact n2
    · refine hK.trans n3 (fun z hz hzs => ?_)
      rcases List.mem_cons.1 hz with h | h
      · simp [h]
      · have := hlt' z (by simpa using h); omega
    · rw [List.map_append]
      exact (hT.mono (fun _ _ h => h.keepF n3 hTy)).snoc (ht.keepF n3 hTy)
  case stop => exact fun _ _ _ _ _ _ h _ => h.elim
  case done =>
    rintro D Wd hD ⟨V, vs, hv, hrow, hK, hT⟩ hD2
    have hcv := hv.cell 0
    simp at hcv
    obtain ⟨A, cp, rfl⟩ := own_shape hrow
    gi_wp2
    refine ⟨by simp, .inl ⟨_, _, rfl, run_takeDeferred hD2, ?_⟩⟩
    have hn : ∀ r, some D = some r → ∃ o : Obj, Wd.heap[r]? = some o ∧ o.isCells = false := fun r e => by cases e; exact ⟨_, hD2, rfl⟩
    refine ⟨_, by simp [results, Tryd.results15, go_sem], A, cp, vs, rfl, Reads.of_own (own_putObj _ hrow hD2 rfl), hT.mono (fun _ _ ht => ht.own (grownBy_putObj' Wd D _) hn), ?_⟩
    exact (K0.trans hK (fun y hy hlt => by simp at hy <;> omega)).trans (keep_putObj Wd D _) (fun y hy hlt => by have := hz0.out; simp at hy <;> omega)

set_option maxRecDepth 100000 in
set_option maxHeartbeats 2000000 in
theorem first_any {α : Type} (f : α → List ByteArray) (x : α) (xs : List α) (g : Nat) (lb : Array Value) (B0 : Nat) (w : World) (hB : B0 ≤ w.heap.size) (hen : ∀ args w, (callFunc g args).run Tryd.prog w = .ok (.enter g args) w)
    (hseq : ∀ W, Keep [] w W → SeqQ Fence.wide 8 Tryd.prog LoN g lb (EncT f) (KpU UsS B0 (W.heap.size + 2)) (x :: xs) W) :
    Calls Tryd.prog 11 #[.func (.func g) #[] lb] w fun e w' => ∃ A c, e = .returned (.slice A (f x).length c) ∧ TxtAt w' A (f x) ∧ Keep [] w w' := by
  rw [← callsIn_wide (n := 9)]
  obtain ⟨W0, hW0⟩ : ∃ W0, w.alloc (.cells #[.slice none 0 0] 55) = W0 := ⟨_, rfl⟩
  have b0 : Blk W0 w.heap.size 55 #[.slice none 0 0] := by rw [← hW0]; exact Blk.new _ _ _
  have K0 : Keep [] w W0 := by rw [← hW0]; exact (Keep.refl [] w).alloc _
  have hz0 : Hid (W0.heap.size = w.heap.size + 1) := by show _ = _; rw [← hW0]; simp
  have hss := hseq W0 K0
  have HW := Lib.hid hW0
  have hnn := fun f x y => run_eql_func_nil (P := Tryd.prog) Tryd.underlying58 f x y
  clear hW0 hseq
  refine callsIn_of_wp_marks Tryd.func11 rfl trivial ?_ rfl
  simp only [Tryd.ntmps11, List.size_toArray, List.length_cons, List.length_nil, Nat.reduceAdd, Nat.reduceSub, Array.replicate_succ, Array.replicate_zero, List.push_toArray, List.append_toArray, List.nil_append, List.cons_append]
  gi_wp2_with (rw [HW.out])
  refine wpIn_rangeQ (F := Fence.wide) (n := 9) (Lo := LoN) (ps := #[7]) rfl (by omega) (gf := g) (lb := lb) rfl trivial hen
    hss KpU.trans (fun W o o' h1 h2 => kpu_put o' (by have := hz0.out; omega) (by omega) h1 h2) (Below.refl _ _) (fun x W args h => by obtain ⟨A, cp, rfl, _⟩ := h; rfl)
    (fun pre W' => pre = [] ∧ Blk W' w.heap.size 55 #[.slice none 0 0] ∧ Keep [w.heap.size] W0 W')
    (fun c pre W' => c = .ret ∧ ∃ A cp, Blk W' w.heap.size 55 #[.slice A (f x).length cp] ∧ TxtAt W' A (f x) ∧ Keep [w.heap.size] W0 W')
    ?hI ?hIx ⟨rfl, b0, Keep.refl _ _⟩
    (fun y a1 W' => ∃ A cp, TxtAt W' A (f y) ∧ a1 = { tmps := #[.func (.func g) #[] lb, undef, .pointer (some ⟨w.heap.size, 0, none⟩), .slice A (f y).length cp, .func (.func g) #[] lb, .bool false, .func (.func g) #[] lb, .slice A (f y).length cp, undef], defers := [] })
    ?hPA ?hKa ?assign ?body ?done ?stop
  case hI =>
    refine OwnFrom.toT (OwnFrom.and (fun _ _ _ _ hs _ _ => hs) (OwnFrom.and (blk_own _ _ _) (keep_own (Nat.le_refl _))))
  case hIx =>
    rintro c pre X Y row ⟨hc, A, cp, h1, h2, h3⟩ hg hr
    have hr' : ∀ r, row = some r → W0.heap.size ≤ r ∧ ∃ o : Obj, X.heap[r]? = some o ∧ o.isCells = false := fun r e => by
      obtain ⟨o, ho, ⟨h0, h⟩ | ⟨_, h⟩⟩ := hr r e
      · exact ⟨h0, o, ho, h⟩
      · exact h.elim
    exact ⟨hc, A, cp, blk_own (β := Unit) _ _ (fun _ => _) () X Y row h1 hg hr', h2.own hg (fun r e => (hr' r e).2), keep_own (β := Unit) (Nat.le_refl _) () X Y row h3 hg hr'⟩
  case hPA =>
    rintro y a1 _ X Y row ⟨A, cp, h, e⟩ hg hr
    exact ⟨A, cp, h.own hg (fun r e => ⟨_, (hr r e).2.choose_spec.1, (hr r e).2.choose_spec.2⟩), e⟩
  case hKa => exact fun W W2 hz k => kpu_keep0 k (by have := hz0.out; omega)
  case assign =>
    rintro l x args W K hz ⟨A, cp, rfl, ht⟩ hK
    gi_wp2
    exact hK _ _ (Keep.refl _ _) ⟨A, cp, ht, rfl⟩
  case body =>
    rintro l pre y a1 W hz ⟨rfl, hv, hK⟩ ⟨A, cp, ht, rfl⟩ hpre
    obtain rfl : y = x := by
      obtain ⟨r, hr⟩ := hpre
      simp at hr
      exact hr.1
    have hcv := hv.cell 0
    have hfv := hv.frozen 0
    simp at hcv
    have hz0o := hz0.out
    gi_wp2
    have n3 := keep_set W w.heap.size 0 (.slice A (f y).length cp)
    have hTy : ∀ z ∈ [w.heap.size], ∃ cs t fr, W.heap[z]? = some (.cells cs t fr) ∧ t ≠ 9 := fun z hz => by
      obtain rfl : z = w.heap.size := by simpa using hz
      exact ⟨_, _, _, hv, by decide⟩
    refine ⟨n3.from (fun z hz => .inl (by simp at hz; omega)), kpu_of n3 (fun z hz => ?_) (by have := hK.size; omega), rfl, A, cp, hv.set_ 0 _, ht.keepF n3 hTy, hK.trans n3 (by simp)⟩
    obtain rfl : z = w.heap.size := by simpa using hz
    exact ⟨hB, _, _, _, hv, by decide⟩
  case stop =>
    rintro D c pre Wd hD hpre ⟨rfl, A, cp, hb, ht, hK⟩ hD2
    have hn : ∀ r, some D = some r → ∃ o : Obj, Wd.heap[r]? = some o ∧ o.isCells = false := fun r e => by cases e; exact ⟨_, hD2, rfl⟩
    have hc := (blk_putObj (.deferred none) hb hD2 rfl).cell 0
    simp at hc
    gi_wp2
    refine ⟨by simp, .inl ⟨_, _, rfl, run_takeDeferred hD2, ?_⟩⟩
    refine ⟨_, by simp [results, Tryd.results11, go_sem, hc], A, cp, rfl, ht.own (grownBy_putObj' Wd D _) hn, ?_⟩
    exact (K0.trans hK (fun y hy hlt => by simp at hy <;> omega)).trans (keep_putObj Wd D _) (fun y hy hlt => by have := hz0.out; simp at hy <;> omega)
  case done =>
    rintro D Wd hD ⟨h, _⟩ hD2
    cases h

/-- Rows of ints in memory. -/
structure RowsI (w : World) (A : Option Addr) (xs : List (List Int)) : Prop where
  rd : ∃ us : List Value, Reads w 1 A xs.length us ∧ ∀ i, (h : i < xs.length) → ∃ A' c', us[i]? = some (.slice A' xs[i].length c') ∧ Reads w 1 A' xs[i].length (iv xs[i])
theorem RowsI.keep0 {w w' : World} {A : Option Addr} {xs : List (List Int)} (h : RowsI w A xs) (k : Keep [] w w') : RowsI w' A xs := by
  obtain ⟨us, h1, h2⟩ := h.rd
  exact ⟨us, h1.keep0 k, fun i hi => (h2 i hi).imp fun _ => fun ⟨c, a, b⟩ => ⟨c, a, b.keep0 k⟩⟩
set_option maxRecDepth 100000 in
set_option maxHeartbeats 2000000 in
theorem same53_any (A B : Option Addr) (c d : Nat) (vs : List Value) (xs : List (List Int)) (w : World) (hA : Reads w 1 A xs.length vs) (hT : TextsAt w vs (xs.map txts)) (hB : RowsI w B xs) (hl : xs.length ≤ 100000) (hr : ∀ l ∈ xs, l.length ≤ 100) :
    Calls Tryd.prog 14 #[.slice A xs.length c, .slice B xs.length d] w fun e w' => e = .returned (.bool true) ∧ Keep [] w w' := by
  have HA := Lib.hid hA
  have HT := Lib.hid hT
  have HB := Lib.hid hB
  have q0 : decide ((xs.length : Int) = (xs.length : Int)) = true := by simp
  have hRT := fun A c l w h hl => Lib.hid (rtexts_any A c l w h hl)
  have hEQ := fun A B c d l w hA hB hl => Lib.hid (sEqual_any A B c d l l w hA hB hl hl)
  clear hA hB hT
  go_enter Tryd.func14, Tryd.ntmps14
  go_wp2
  go_loopw [5] (fun vi wr => ∃ k : Nat, k ≤ xs.length ∧ vi = .int .i64 (k : Int) ∧ Keep [] w wr) (fun vi _ => xs.length - (intOf vi).toNat)
  case atStart => exact ⟨0, Nat.zero_le _, rfl, Keep.refl _ _⟩
  case round =>
    obtain ⟨k, hk, rfl, hK⟩ := hrel
    by_cases hlt : k < xs.length
    · obtain ⟨b1, o1, u1, hA1, hb1, hu1, hc1⟩ := HA.out.at_ hlt
      obtain ⟨At, ct, e1, ht⟩ := HT.out.at_ k (by simpa using hlt)
      obtain ⟨us, hR2, hI⟩ := HB.out.rd
      obtain ⟨b2, o2, u2, hB1, hb2, hu2, hc2⟩ := hR2.at_ hlt
      obtain ⟨Ai, ci, e2, hi⟩ := hI k hlt
      simp only [List.getElem_map, txts_len] at e1 ht
      rw [hu1] at e1
      rw [hu2] at e2
      cases e1
      cases e2
      have hlk := hr _ (List.getElem_mem hlt)
      have hF : ∀ w', Keep [] wr w' → w'.cell? ⟨b1, o1 + k, none⟩ = some (.slice At xs[k].length ct) ∧ w'.cell? ⟨b2, o2 + k, none⟩ = some (.slice Ai xs[k].length ci) := fun w' kk => ⟨((hK.then kk).cell (p := ⟨b1, o1 + k, none⟩) hb1 (by simp)).trans hc1, ((hK.then kk).cell (p := ⟨b2, o2 + k, none⟩) hb2 (by simp)).trans hc2⟩
      have p0 : (0 : Int) ≤ (k : Int) := by omega
      have p1 : (k : Int) < (xs.length : Int) := by omega
      have HHT := Lib.hid ht.rd
      have HHI := Lib.hid hi
      clear hu1 hu2 hc1 hc2 hI hR2 hr ht hi
      generalize xs[k] = L at *
      rw [hA1, hB1]
      go_wp2
      refine ap_begin 10 (Keep [] wr) rfl (Keep.refl _ _).drew (fun hS hPan => ?_) (fun _ _ d _ _ h => by cases d <;> exact h)
      (refine ap_val (v := ?_) 0 rfl (by kernel_rfl) (by kernel_rfl) (by kernel_rfl) (by kernel_rfl) (by rfl) hPan ?_ hS ?_; rotate_left; (intro w' hSw; go_simp; try with_reducible rfl); simp only [Act.put, List.setIfInBounds_toArray, List.set_cons_zero, List.set_cons_succ])
      (refine ap_val (v := ?_) 1 rfl (by kernel_rfl) (by kernel_rfl) (by kernel_rfl) (by kernel_rfl) (by rfl) hPan ?_ hS ?_; rotate_left; (intro w' hSw; go_simp; try with_reducible rfl); simp only [Act.put, List.setIfInBounds_toArray, List.set_cons_zero, List.set_cons_succ])
      (refine ap_val (v := ?_) 2 rfl (by kernel_rfl) (by kernel_rfl) (by kernel_rfl) (by kernel_rfl) (by rfl) hPan ?_ hS ?_; rotate_left; (intro w' hSw; go_simp; try with_reducible rfl); simp only [Act.put, List.setIfInBounds_toArray, List.set_cons_zero, List.set_cons_succ])
      (refine ap_val (v := ?_) 3 rfl (by kernel_rfl) (by kernel_rfl) (by kernel_rfl) (by kernel_rfl) (by rfl) hPan ?_ hS ?_; rotate_left; (intro w' hSw; obtain ⟨f1,f2⟩ := hF w' hSw; go_simp; try with_reducible rfl); simp only [Act.put, List.setIfInBounds_toArray, List.set_cons_zero, List.set_cons_succ])
      (refine ap_val (v := ?_) 4 rfl (by kernel_rfl) (by kernel_rfl) (by kernel_rfl) (by kernel_rfl) (by rfl) hPan ?_ hS ?_; rotate_left; (intro w' hSw; go_simp; try with_reducible rfl); simp only [Act.put, List.setIfInBounds_toArray, List.set_cons_zero, List.set_cons_succ])
      (refine ap_val (v := ?_) 5 rfl (by kernel_rfl) (by kernel_rfl) (by kernel_rfl) (by kernel_rfl) (by rfl) hPan ?_ hS ?_; rotate_left; (intro w' hSw; go_simp; try with_reducible rfl); simp only [Act.put, List.setIfInBounds_toArray, List.set_cons_zero, List.set_cons_succ])
      (refine ap_val (v := ?_) 6 rfl (by kernel_rfl) (by kernel_rfl) (by kernel_rfl) (by kernel_rfl) (by rfl) hPan ?_ hS ?_; rotate_left; (intro w' hSw; go_simp; try with_reducible rfl); simp only [Act.put, List.setIfInBounds_toArray, List.set_cons_zero, List.set_cons_succ])
      (refine ap_val (v := ?_) 7 rfl (by kernel_rfl) (by kernel_rfl) (by kernel_rfl) (by kernel_rfl) (by rfl) hPan ?_ hS ?_; rotate_left; (intro w' hSw; obtain ⟨f1,f2⟩ := hF w' hSw; go_simp; try with_reducible rfl); simp only [Act.put, List.setIfInBounds_toArray, List.set_cons_zero, List.set_cons_succ])
      refine ap_one 8 (by kernel_rfl) ?_
      refine op_call (f := 13) 8 rfl (by rfl) rfl (by simp only [List.map_toArray, List.map_cons, List.map_nil]; rfl) Tryd.func13 (by kernel_rfl) (by kernel_rfl) (hRT _ _ L _ (HHI.out.keep0 (hK.then hS)) (by omega)).out ?_
      rintro e w3 ⟨A3, c3, rfl, hown, k3⟩
      have hE := hEQ At A3 ct c3 (txts L) w3 (HHT.out.keep0 (hK.then (hS.then k3))) (Reads.of_own hown) (by rw [txts_len]; omega)
      replace hS := hS.then k3
      refine ⟨_, rfl, fun _ => hS, ?_⟩
      clear k3 hown
      rw [decide_true, txts_len] at hE
      rw [List.length_map]
      (simp only [Act.put, List.setIfInBounds_toArray, List.set_cons_zero, List.set_cons_succ])
      refine ap_one 9 (by kernel_rfl) ?_
      refine op_call (f := 10) 9 rfl (by rfl) rfl (by simp only [List.map_toArray, List.map_cons, List.map_nil]; rfl) Tryd.func10 (by kernel_rfl) (by kernel_rfl) hE.out ?_
      rintro e w4 ⟨rfl, k4⟩
      replace hS := hS.then k4
      refine ⟨_, rfl, fun _ => hS, ?_⟩
      clear k4
      (simp only [Act.put, List.setIfInBounds_toArray, List.set_cons_zero, List.set_cons_succ])
      refine ap_one 10 (by kernel_rfl) ?_
      refine op_run (v := .bool false) (w' := w4) 10 rfl (by rfl) (by go_simp) ?_
      refine ⟨fun h => (by cases h), ap_done (by kernel_rfl) ?_ _⟩
      (simp only [Act.put, List.setIfInBounds_toArray, List.set_cons_zero, List.set_cons_succ])
      have hKE := hK.then hS
      clear hS hPan hF
      go_wp2
      go_roundw
      case rel => exact ⟨k + 1, by omega, by go_num, hKE⟩
      case measure => simp [intOf]; omega
    · obtain rfl : k = xs.length := by omega
      have p2 : decide ((xs.length : Int) < (xs.length : Int)) = false := by simp
      go_wp2
      go_ret
      exact ⟨rfl, hK⟩
end Go.Proofs.YteocldlglklnjaaDoor
