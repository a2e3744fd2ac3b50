/- Some of tally as an iterator, walked; the law's helper some. -/
import Derived.Test.YtgonnddgljgghaaTally2
import Derived.Test.YtgonnddgljgghaaDigHelp
namespace Go.Proofs.Ytgonnddgljgghaa
open Go.RowKit
attribute [local go_sem] Oper.semAt_some

section
variable {P : Program} {ops : Array Oper} {rest : List Oper} {o : Oper} {a : Act} {Q : Exit → Act → World → Prop} {w : World} {F : Fence} {n' : Nat}
/-- A whole struct or array loaded, in a round. -/
theorem wpListIn_load_agg (hgd : o.guard = none) (ty : TypeId) (x : Operand) (ho : o.op = .load ty x) {b f : Nat} (hx : a.eval x = .pointer (some ⟨b, f, none⟩)) {cs : List Value} (hA : AggOf P ty cs.length) (hc : CellsAt w b f cs)
    (h : wpListIn F n' P ops Q rest (a.put o.dst (.agg cs.toArray)) w) : wpListIn F n' P ops Q (o :: rest) a w := by
  refine wpListIn_plain hgd fun K hK => ?_
  unfold Oper.wpIn
  refine ⟨?_, ?_⟩
  · simp [Oper.about, ho]
  · rw [Oper.semAt_plain F _ _ (by rw [ho]; intro c hc'; cases hc')]
    simp only [execOp, ho, hx, Instr.loadAt, Instr.sureAddr, Sem.run_bind, Sem.run_pure, Result.andThen_ok, run_loadVar_agg hA hc]
    exact hK _ _ h
/-- 'out = append(out, x, y, ..)', in a round. -/
theorem wpListIn_append_lit {e : TypeId} {wr : World} {us : List Value} (m : Nat)
    (hgd : o.guard = none) (s x : Operand) (t : TypeId) (ho : o.op = .call { callee := .builtin .append, args := #[s, x], argTypes := #[t, t] })
    {size bytes : Nat} (hS : SliceOf P t e size bytes) {B : Nat} {v : Value} {n : Nat} {xs : List Value} (hown : wr.ownsRow B e size v n xs) (hs : a.eval s = v) (hx : a.eval x = .slice (some ⟨wr.heap.size, 0, none⟩) m m)
    (hl : us.length = m * size) (h1 : ∀ u ∈ us, u.oneCell' = true) (hB : B ≤ wr.heap.size) (hb : (n + m) * bytes ≤ 140737488355328) (h63 : n + m ≤ maxLen)
    (h : ∀ v' w', w'.ownsRow B e size v' (n + m) (xs ++ us) → Keep v.ownBlock.toList wr w' → (v'.ownBlock = v.ownBlock ∨ v'.ownBlock = some (wr.heap.size + 1)) → wpListIn F n' P ops Q rest (a.put o.dst v') w') :
    wpListIn F n' P ops Q (o :: rest) a (wr.alloc (.cells us.toArray e)) := by
  obtain ⟨ht, ⟨i, z, hi, hz, hsz, hby, hzs⟩, hpos⟩ := hS.parts
  obtain ⟨v', w', hr, h2, h3, _, h5⟩ := run_append_own_at (P := P) (wr.alloc (.cells us.toArray e)) B t o.type e i z size bytes ht hi hz hsz hby hzs hpos v n xs (hown.alloc _) ⟨wr.heap.size, 0, none⟩ m m us hl
    (by
      intro j u hu
      rw [add_of_block]
      show World.cell? _ _ = _
      simp only [World.cell?, heap_alloc_new]
      simpa using hu) h1 h63 hb (by simp; omega)
  refine wpListIn_plain hgd fun K hK' => ?_
  unfold Oper.wpIn
  refine ⟨?_, ?_⟩
  · simp [Oper.about, ho, resolve, Target.leads, Sem.run_pure]
  · rw [Oper.semAt_plain F _ _ (by rw [ho]; intro c hc'; cases hc')]
    simp [execOp, ho, resolve, invoke, builtin, hs, hx, hr, Result.andThen]
    exact hK' _ _ (h v' w' h2 (((Keep.refl _ wr).alloc _).trans (Keep.of_grown h3) (fun x hx _ => hx)) (by simpa using h5))
end

abbrev II := Int × Int
def encII (x : II) : Array Value := #[.int .i64 x.1, .int .i64 x.2]
/-- What Some goes through, of the kinds below k. -/
def someK (l : List Ev) : Nat → List II
  | 0 => []
  | k + 1 => someK l k ++ (if 0 < k ∧ 0 < cnt l (k : Int) then [((k : Int), (cnt l (k : Int) : Int))] else [])
theorem someK_le (l : List Ev) : ∀ k, (someK l k).length ≤ k
  | 0 => by simp [someK]
  | k + 1 => by
    have := someK_le l k
    rw [someK, List.length_append]
    split <;> simp <;> omega
theorem someK_prefix (l : List Ev) {i j : Nat} (h : i ≤ j) : someK l i <+: someK l j := by
  induction j with
  | zero => obtain rfl : i = 0 := by omega
            exact List.prefix_refl _
  | succ j ih =>
    rcases Nat.lt_or_ge i (j + 1) with h1 | h1
    · exact (ih (by omega)).trans (by rw [someK]; exact List.prefix_append _ _)
    · obtain rfl : i = j + 1 := by omega
      exact List.prefix_refl _

theorem some_any (l : List Ev) (w : World) : Calls Try.prog 64 #[.agg (intsV (tal l)).toArray] w fun e w' =>
    e = .returned (.func (.func 78) #[] #[.pointer (some ⟨w.heap.size, 0, none⟩)]) ∧ w.alloc (.cells (intsV (tal l)).toArray 61) = w' := by
  generalize (intsV (tal l)).toArray = cs
  go_enter Try.func64, Try.ntmps64
  go_wp2
  go_ret
  exact ⟨rfl, rfl⟩

set_option maxRecDepth 100000 in
set_option maxHeartbeats 1000000 in
theorem some1_stops (n : Nat) (l : List Ev) (B : Nat) (w : World) (hB : B < w.heap.size) (hb : Blk w B 61 (intsV (tal l)).toArray) :
    SeqStopsK Fence.wide n Try.prog 78 #[.pointer (some ⟨B, 0, none⟩)] encII (Same [B]) (fun xs => xs = someK l 11) (fun pre => pre <+: someK l 11) (someK l 11).length w := by
  intro l0 J Jx W hW hJ hJx hY h0
  have hcW : Hid (CellsAt W B 0 (intsV (tal l))) := by
    intro j u hu
    exact (hW.cell (p := ⟨B, 0 + j, none⟩) hB).trans (hb.cellsAt j u hu)
  have HI := Lib.hid (fun k (hk : k < 11) v hv W => run_index_agg (P := Try.prog) (t := 61) (e := 3) (n := 11) (cs := (intsV (tal l)).toArray) (v := v) Try.underlying61 Try.underlying3 rfl (by kernel_rfl) k hk hv W)
  have HG := Lib.hid (tal_at l)
  have HZ := Lib.hid (tal_zero l)
  have hA : Hid (AggOf Try.prog 61 (intsV (tal l)).length) := by show AggOf _ _ _; rw [List.length_map, tal_len]; exact agg_tally
  refine callsIn_of_wp Try.func78 rfl trivial ?_ rfl
  simp only [Try.ntmps78, List.size_toArray, List.length_cons, List.length_nil, Nat.reduceAdd, Nat.reduceSub, Array.replicate_succ, Array.replicate_zero, List.push_toArray, List.append_toArray, List.nil_append, List.cons_append]
  gi_wp2_with (refine wpListIn_load_agg rfl 61 (.tmp 1) rfl rfl (cs := intsV (tal l)) hA.out hcW.out ?_)
  clear hb hcW hA
  generalize (intsV (tal l)).toArray = cs at *
  gi_loopw [6] (fun vi wr => ∃ k : Nat, k ≤ 11 ∧ vi = .int .i64 k ∧ J (someK l k) wr) (fun i _ => 11 - (intOf i).toNat)
  case atStart => exact ⟨0, Nat.zero_le _, rfl, h0⟩
  case round =>
    obtain ⟨k, hk, rfl, hJr⟩ := hrel
    by_cases hlt : k < 11
    · have hlen0 := someK_le l k
      have hpre := Lib.hid (someK_prefix l (show k + 1 ≤ 11 by omega))
      by_cases hc : 0 < k ∧ 0 < cnt l (k : Int)
      · obtain ⟨hc1, hc2⟩ := hc
        have hrun := fun W => HI.out k hlt _ (HG.out k (by omega) hlt) W
        have hS : Hid (someK l (k + 1) = someK l k ++ [((k : Int), (cnt l (k : Int) : Int))]) := by show _ = _; rw [someK, if_pos ⟨hc1, hc2⟩]
        have hlen : (someK l k).length < (someK l 11).length := by
          have := hpre.out.length_le
          rw [hS.out] at this
          simp at this
          omega
        obtain ⟨fn, tmps, assign, body, hy, hR⟩ := hY (someK l k) ((k : Int), (cnt l (k : Int) : Int)) wr hJr hlen
        dsimp only [encII] at hy
        rw [← hS.out] at hR
        generalize cnt l (k : Int) = c at *
        clear hlen hlen0
        gi_wp2
        refine ⟨fun h => (by cases h), hR.mono ?_⟩
        rintro e W3 (⟨rfl, hJ3, hk3⟩ | ⟨rfl, hJx3⟩)
        · gi_wp2
          go_roundw
          case rel => exact ⟨k + 1, by omega, by go_num, hJ3⟩
          case measure => simp [intOf] <;> omega
        · gi_wp2
          refine bodyPost_ret (results_none rfl _ _ _) rfl ?_
          exact ⟨⟨_, rfl⟩, .inr ⟨_, hpre.out, hJx3⟩⟩
      · have hS : Hid (someK l (k + 1) = someK l k) := by show _ = _; rw [someK, if_neg hc, List.append_nil]
        obtain ⟨x, hx0, hx⟩ : ∃ x : Int, x ≤ 0 ∧ cs[k]? = some (.int .i64 x) := by
          by_cases hk0 : k = 0
          · subst hk0; exact ⟨0, by omega, HZ.out⟩
          · exact ⟨_, by omega, HG.out k (by omega) hlt⟩
        have hrun := fun W => HI.out k hlt _ hx W
        clear hc hx
        gi_wp2
        refine ⟨fun f h => (by cases h), ?_⟩
        gi_wp2
        go_roundw
        case rel => exact ⟨k + 1, by omega, by go_num, by rw [hS.out]; exact hJr⟩
        case measure => simp [intOf] <;> omega
    · obtain rfl : k = 11 := by omega
      gi_wp2
      go_end0
      exact ⟨⟨_, rfl⟩, .inl ⟨_, rfl, hJr⟩⟩

theorem slice_int44 : SliceOf Try.prog 28 3 1 8 := ⟨Try.underlying28, by kernel_rfl, by decide⟩
def flat2 (l : List II) : List Int := l.flatMap (fun x => [x.1, x.2])
theorem flat2_len (l : List II) : (flat2 l).length = 2 * l.length := by
  induction l with
  | nil => rfl
  | cons a l ih => simp only [flat2, List.flatMap_cons, List.length_append, List.length_cons, List.length_nil] at *; omega
theorem flat2_snoc (l : List II) (x : II) : flat2 (l ++ [x]) = flat2 l ++ [x.1, x.2] := by simp [flat2]

set_option maxRecDepth 100000 in
set_option maxHeartbeats 400000 in
theorem someHelp_any (l : List Ev) (w : World) :
    Calls Try.prog 37 #[.agg (intsV (tal l)).toArray] w (RetInts w (flat2 (someK l 11))) := by
  have hnn := fun f x y => run_neq_func_nil (P := Try.prog) Try.underlying103 f x y
  have HA : Hid (AggOf Try.prog 61 (intsV (tal l)).length) := by show AggOf _ _ _; rw [List.length_map, tal_len]; exact agg_tally
  rw [← callsIn_wide (n := 9)]
  refine callsIn_of_wp_marks Try.func37 rfl trivial ?_ rfl
  simp only [Try.ntmps37, List.size_toArray, List.length_cons, List.length_nil, Nat.reduceAdd, Nat.reduceSub, Array.replicate_succ, Array.replicate_zero, List.push_toArray, List.append_toArray, List.nil_append, List.cons_append]
  obtain ⟨W1, hW1⟩ : ∃ W1, (w.alloc (.cells (intsV (tal l)).toArray 61)).alloc (.cells #[.slice none 0 0] 28) = W1 := ⟨_, rfl⟩
  have hsz1 : W1.heap.size = w.heap.size + 2 := by rw [← hW1]; simp
  have c0 : Blk W1 w.heap.size 61 (intsV (tal l)).toArray := by rw [← hW1]; exact (Blk.new _ _ _).alloc _
  have c1 : Blk W1 (w.heap.size + 1) 28 #[.slice none 0 0] := by
    rw [← hW1]; have := Blk.new (w.alloc (.cells (intsV (tal l)).toArray 61)) 28 #[.slice none 0 0]; rw [World.size_alloc] at this; exact this
  have K1 : Keep [] w W1 := by rw [← hW1]; exact ((Keep.refl _ w).alloc _).alloc _
  have HW := Lib.hid hW1
  have HCA : Hid (CellsAt W1 w.heap.size 0 (intsV (tal l))) := c0.cellsAt
  clear hW1
  gi_wp2_with (first
    | (rw [HW.out]; refine wpListIn_load_agg rfl 61 (.tmp 1) rfl rfl (cs := intsV (tal l)) HA.out HCA.out ?_)
    | (refine ⟨trivial, ?_⟩; gi_at_call 64; refine (callsIn_wide.2 (some_any l _)).mono ?_; rintro e w' ⟨rfl, rfl⟩))
  obtain ⟨W0, hW0⟩ : ∃ W0, W1.alloc (.cells (intsV (tal l)).toArray 61) = W0 := ⟨_, rfl⟩
  have hsz : W0.heap.size = w.heap.size + 3 := by rw [← hW0]; simp [hsz1]
  have b1 : Blk W0 (w.heap.size + 1) 28 #[.slice none 0 0] := by rw [← hW0]; exact c1.alloc _
  have b2 : Blk W0 (w.heap.size + 2) 61 (intsV (tal l)).toArray := by rw [← hW0, ← hsz1]; exact Blk.new _ _ _
  have K0 : Keep [] w W0 := by rw [← hW0]; exact K1.alloc _
  have hlen : (someK l 11).length ≤ 11 := someK_le l 11
  simp only [hW0]
  clear HW HCA HA c0 c1 K1
  have HL := Lib.hid hlen
  have hss := some1_stops 8 l (w.heap.size + 2) W0 (by omega) b2
  generalize (intsV (tal l)).toArray = cs at *
  refine wpIn_rangeFunc_ownG (F := Fence.wide) (n := 9) (ps := #[12, 13]) rfl (by omega) (gf := 78) (lb := #[.pointer (some ⟨w.heap.size + 2, 0, none⟩)]) rfl trivial (enters_of Try.func78 (by kernel_rfl) rfl)
    hss Same.trans (Same.turn (by simp; omega)) (Below.refl _ _) (fun _ => rfl)
    (fun pre W => ∃ v, W.ownsRow (w.heap.size + 3) 3 1 v (2 * pre.length) (ints (flat2 pre)) ∧ Blk W (w.heap.size + 1) 28 #[v] ∧ Keep [w.heap.size + 1] W0 W)
    (fun _ _ _ => False)
    ?hI ?hIx ⟨_, World.ownsRow_nil _ _ _ _, b1, Keep.refl _ _⟩
    (fun x => { tmps := #[.agg cs, .pointer (some ⟨w.heap.size, 0, none⟩), .slice none 0 0, .pointer (some ⟨w.heap.size + 1, 0, none⟩), .func (.func 78) #[] #[.pointer (some ⟨w.heap.size + 2, 0, none⟩)], .int .i64 x.1, .int .i64 x.2, .agg cs,
      .func (.func 78) #[] #[.pointer (some ⟨w.heap.size + 2, 0, none⟩)], .func (.func 78) #[] #[.pointer (some ⟨w.heap.size + 2, 0, none⟩)], .bool true, .func (.func 78) #[] #[.pointer (some ⟨w.heap.size + 2, 0, none⟩)], .int .i64 x.1, .int .i64 x.2,
      undef, undef, undef, undef, undef, undef], defers := [] }) ?assign ?body ?done ?stop
  case hI =>
    intro pre X Y row hs hg hr
    obtain ⟨v, h1, h2, h4⟩ := hs
    exact ⟨v, ownsRow_own (β := Unit) _ _ _ (fun _ => v) (fun _ => 2 * pre.length) (fun _ => ints (flat2 pre)) () X Y row h1 hg hr, blk_own (β := Unit) _ _ (fun _ => _) () X Y row h2 hg hr,
      keep_own (β := Unit) (Nat.le_refl _) () X Y row h4 hg hr⟩
  case hIx => exact fun _ _ _ _ _ hs _ _ => hs
  case assign =>
    intro l x W K hK
    simp only [encII]
    gi_wp2
    exact hK
  case body =>
    rintro l0 pre x W ⟨v, hrow, hv, hK⟩ hlt
    have hc := hv.cell 0
    simp at hc
    obtain ⟨A, c, rfl⟩ := own_shape hrow
    have hne := own_blk_ne hrow hv (by decide)
    have hB : w.heap.size + 3 ≤ W.heap.size := by have := hK.size; omega
    have hl11 := HL.out
    gi_wp2_with (gi_at_builtin; refine wpListIn_append_lit 2 rfl (.tmp 14) (.tmp 17) 28 rfl slice_int44 hrow rfl rfl (us := [.int .i64 x.1, .int .i64 x.2]) rfl (by simp [Value.oneCell']) hB (by omega) (by unfold maxLen; omega) ?_; intro v' w1 hown1 hk1 hat1; obtain ⟨A', c', rfl⟩ := own_shape hown1; have hv1 := hv.keep hk1 (by simpa using hne); have hc1 := hv1.cell 0; have hf1 := hv1.frozen 0; simp at hc1)
    obtain ⟨n1, n2, n3⟩ := boxed_append hrow hv (by decide) hk1 hown1
    have hlt' := fun x hx => (hrow.lt x (by simpa using hx)).1
    refine ⟨n3.from (fun y hy => ?_), Same.keep n3 (fun y hy => ?_), ⟨_, ?_, n1, ?_⟩⟩
    · rcases List.mem_cons.1 hy with rfl | hy
      · exact .inl (by omega)
      · exact .inr (own_cells hrow y hy)
    · simp only [List.mem_singleton] at hy
      subst hy
      refine ⟨by omega, fun hm => ?_⟩
      rcases List.mem_cons.1 hm with h | h
      · omega
      · have := hlt' _ (by simpa using h); omega
    · have e1 : 2 * (pre ++ [x]).length = 2 * pre.length + 2 := by simp; omega
      rw [flat2_snoc, e1]
      simpa [ints] using n2
    · refine hK.trans n3 (fun y hy hys => ?_)
      rcases List.mem_cons.1 hy with h | h
      · simp [h]
      · have := hlt' _ (by simpa using h); omega
  case done =>
    rintro D ys W hD rfl ⟨v, hrow, hv, hK⟩ hD2
    have hc := hv.cell 0
    simp at hc
    obtain ⟨A, c, rfl⟩ := own_shape hrow
    gi_wp2
    have hD3 := hD2
    refine ⟨by simp, .inl ⟨_, _, rfl, run_takeDeferred hD3, ?_⟩⟩
    have m2 := own_putObj (.deferred none) hrow hD3 rfl
    have m3 := (K0.trans hK (by intro y hy hlt; simp at hy; omega)).trans (keep_putObj _ D (.deferred none)) (fun y hy hlt => by simp at hy; omega)
    refine ⟨.slice A (2 * (someK l 11).length) c, by simp [results, Try.results37, go_sem], A, c, ?_, ?_, m3⟩
    · rw [flat2_len]
    · rw [flat2_len]; exact own_base m2 (by omega)
  case stop =>
    rintro D c pre W _ hpre hF _
    exact hF.elim
end Go.Proofs.Ytgonnddgljgghaa
