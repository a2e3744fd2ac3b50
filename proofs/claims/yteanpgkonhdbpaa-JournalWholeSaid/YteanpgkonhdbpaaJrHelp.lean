/- The law's row of all entries; walked. Condition: the device is one that may be. -/
import Derived.Test.YteanpgkonhdbpaaJrAll
namespace Go.Proofs.Yteanpgkonhdbpaa
open Go.RowKit
attribute [local go_sem] Oper.semAt_some

theorem slice_entry : SliceOf Try.prog 36 46 2 8 := ⟨Try.underlying36, by kernel_rfl, by decide⟩
/-- 'append(out, x)': either all old blocks are as they were, or there was room. -/
theorem append_keep {P : Program} {t ty e : TypeId} {size bytes : Nat} (hS : SliceOf P t e size bytes) {w : World} {B : Nat} {v : Value} {n : Nat} {xs : List Value} (hown : w.ownsRow B e size v n xs) {a : Addr} {m c : Nat} {news : List Value} (hl : news.length = m * size) (hnews : ∀ j u, news[j]? = some u → w.cell? (a.add j) = some u)
    (hm : 0 < m) (h63 : n + m ≤ maxLen) (hb : (n + m) * bytes ≤ 140737488355328) {v' : Value} {w' : World} (hr : (Builtin.append_ #[t, t] ty #[v, .slice (some a) m c]).run P w = .ok v' w') :
    Keep [] w w' ∨ ∃ g cs cap, v = .slice (some ⟨g, 0, none⟩) n cap ∧ w.heap[g]? = some (.cells cs e (0, 0)) ∧ cs.size = cap * size ∧ n + m ≤ cap := by
  obtain ⟨ht, ⟨i, z, hi, hz, hsz, hby, hzs⟩, hpos⟩ := hS.parts
  have h9 : n + m ≤ 9223372036854775807 := by simp only [maxLen] at h63; omega
  rcases hown.2 with ⟨rfl, rfl⟩ | ⟨g, cap, cur, rfl, _, hh, h1, _, h3, _⟩
  · left
    have h2 := run_append_nil (P := P) w t ty e i z ht hi hz a m c news (by rw [hsz]; exact hl) hnews hm (by omega) (by rw [hby]; simp only [Nat.zero_add] at hb; omega)
    rw [h2] at hr
    cases hr
    exact ((Keep.refl [] w).drew).alloc _
  · by_cases hroom : n + m ≤ cap
    · exact .inr ⟨g, cur, cap, rfl, hh, h3, hroom⟩
    · left
      have h2 := run_append_grow (P := P) w t ty e i z ht hi hz ⟨g, 0, none⟩ n cap xs (by rw [hsz]; exact hown.1) (hown.cells (g := g) rfl) a m c news (by rw [hsz]; exact hl) hnews (by omega) (by omega) (by rw [hby]; exact growslice_fits (by omega) hb)
      rw [h2] at hr
      cases hr
      exact ((Keep.refl [] w).drew).alloc _
section
variable {P : Program} {ops : Array Oper} {rest : List Oper} {o : Oper} {a : Act} {Q : Exit → Act → World → Prop} {wr : World} {e : TypeId} {F : Fence} {n' : Nat}
/-- 'out = append(out, x)' of one element, in a round; what is told of the old blocks besides. -/
theorem wpListIn_append_oneJ {us : List Value}
    (hgd : o.guard = none) (s x : Operand) (t : TypeId) (ho : o.op = .call { callee := .builtin .append, args := #[s, x], argTypes := #[t, t] })
    {size bytes : Nat} (hS : SliceOf P t e size bytes) {B : Nat} {v : Value} {n : Nat} {xs : List Value} (hown : wr.ownsRow B e size v n xs) (hs : a.eval s = v) (hx : a.eval x = .slice (some ⟨wr.heap.size, 0, none⟩) 1 1)
    (hl : us.length = size) (h1 : ∀ u ∈ us, u.oneCell' = true) (hB : B ≤ wr.heap.size) (hb : (n + 1) * bytes ≤ 140737488355328) (h63 : n + 1 ≤ maxLen)
    (h : ∀ v' w', w'.ownsRow B e size v' (n + 1) (xs ++ us) → Keep v.ownBlock.toList wr w' → (Keep [] wr w' ∨ ∃ g cs cap, v = .slice (some ⟨g, 0, none⟩) n cap ∧ wr.heap[g]? = some (.cells cs e (0, 0)) ∧ cs.size = cap * size ∧ n + 1 ≤ cap) → wpListIn F n' P ops Q rest (a.put o.dst v') w') :
    wpListIn F n' P ops Q (o :: rest) a (wr.alloc (.cells us.toArray e)) := by
  obtain ⟨ht, ⟨i, z, hi, hz, hsz, hby, hzs⟩, hpos⟩ := hS.parts
  have hnews : ∀ j u, us[j]? = some u → (wr.alloc (.cells us.toArray e)).cell? ((⟨wr.heap.size, 0, none⟩ : Addr).add j) = some u := by
    intro j u hu
    rw [add_of_block]
    show World.cell? _ _ = _
    simp only [World.cell?, heap_alloc_new]
    simpa using hu
  obtain ⟨v', w', hr, h2, h3, _, _⟩ := run_append_own_at (P := P) (wr.alloc (.cells us.toArray e)) B t o.type e i z size bytes ht hi hz hsz hby hzs hpos v n xs (hown.alloc _) ⟨wr.heap.size, 0, none⟩ 1 1 us (by simpa using hl) hnews h1 h63 hb (by simp; omega)
  have hk := append_keep hS (hown.alloc (.cells us.toArray e)) (by simpa using hl) hnews (by omega) h63 hb hr
  refine wpListIn_plain hgd fun K hK' => ?_
  unfold Oper.wpIn
  refine ⟨?_, ?_⟩
  · simp [Oper.about, ho, resolve, Target.leads, Sem.run_pure]
  · rw [Oper.semAt_plain F _ _ (by rw [ho]; intro c hc'; cases hc')]
    simp [execOp, ho, resolve, invoke, builtin, hs, hx, hr, Result.andThen]
    refine hK' _ _ (h v' w' h2 (((Keep.refl _ wr).alloc _).trans (Keep.of_grown h3) (fun x hx _ => hx)) ?_)
    rcases hk with hk | ⟨g, cs, cap, hv, hg, hc1, hc2⟩
    · exact .inl (((Keep.refl [] wr).alloc _).then hk)
    · refine .inr ⟨g, cs, cap, hv, ?_, hc1, hc2⟩
      have hlt : g < wr.heap.size := by
        rcases hown.2 with ⟨h4, _⟩ | ⟨g', _, _, h4, _, h5, _⟩
        · rw [hv] at h4; cases h4
        · rw [hv] at h4
          cases h4
          exact (Array.getElem?_eq_some_iff.1 h5).1
      rw [← hg]
      exact (Below.heap_alloc wr _ g hlt).symm
end
theorem row_baseJ {w : World} {b0 e size n : Nat} {v : Value} {xs : List Value} (h : w.ownsRow b0 e size v n xs) : ∀ y, y ∈ v.ownBlock.toList → b0 ≤ y := by
  intro y hy
  rcases h.2 with ⟨rfl, _⟩ | ⟨g', cap, cur, rfl, hb, _⟩
  · simp [Value.ownBlock] at hy
  · simp [Value.ownBlock] at hy
    omega
/-- A row of entries of the call's own. -/
def RetEnts (w : World) (L : List (Nat × Nat)) (e : Ending) (w' : World) : Prop :=
  ∃ A c, e = .returned (.slice A L.length c) ∧ w'.ownsRow w.heap.size 46 2 (.slice A L.length c) L.length (L.flatMap entC) ∧ Keep [] w w'
theorem info_entSlice : (Try.prog.info? 36).map (fun i => (i.zero, i.size)) = some (some (.slice none 0 0), 1) := by kernel_rfl

set_option maxRecDepth 100000 in
set_option maxHeartbeats 4000000 in
theorem allHelp_any (gj g b1 b2 : Nat) (d : Dev) (j0 : JS) (w : World) (hj : JrAt w gj g j0) (hd : DevAt w g b1 b2 d) (ho : d.Ok) (hb : j0.base + j0.many ≤ d.ns) (hLn : (sortE (entsJ (ownW d j0.base) j0.many (d.nw / 4))).length ≤ 100000) :
    Calls Try.prog 18 #[.pointer (some ⟨gj, 0, none⟩)] w (RetEnts w (sortE (entsJ (ownW d j0.base) j0.many (d.nw / 4)))) := by
  have hnn := fun f x y => run_neq_func_nil (P := Try.prog) Try.underlying119 f x y
  have HAL := fun W => Lib.hid (all_any0 gj W)
  rw [← callsIn_wide (n := 9)]
  refine callsIn_of_wp_marks Try.func18 rfl trivial ?_ rfl
  simp only [Try.ntmps18, List.size_toArray, List.length_cons, List.length_nil, Nat.reduceAdd, Nat.reduceSub, Array.replicate_succ, Array.replicate_zero, List.push_toArray, List.append_toArray, List.nil_append, List.cons_append]
  gi_wp2_with (refine ⟨trivial, ?_⟩; refine (callsIn_wide.2 (HAL _).out).mono ?_; rintro e w' ⟨rfl, rfl⟩)
  obtain ⟨W0, hW0⟩ : ∃ W0, (w.alloc (.cells #[.slice none 0 0] 36)).alloc (.cells #[.pointer (some ⟨gj, 0, none⟩)] 28) = W0 := ⟨_, rfl⟩
  have K0 : Keep [] w W0 := by rw [← hW0]; exact ((Keep.refl [] w).alloc _).alloc _
  have b0 : Blk W0 w.heap.size 36 #[.slice none 0 0] := by rw [← hW0]; exact (Blk.new _ _ _).alloc _
  have b1' : Blk W0 (w.heap.size + 1) 28 #[.pointer (some ⟨gj, 0, none⟩)] := by
    have := Blk.new (w.alloc (.cells #[.slice none 0 0] 36)) 28 #[.pointer (some ⟨gj, 0, none⟩)]
    rw [show (w.alloc (.cells #[.slice none 0 0] 36)).heap.size = w.heap.size + 1 by simp, hW0] at this
    exact this
  have hz0 : W0.heap.size = w.heap.size + 2 := by rw [← hW0]; simp
  rw [hW0]
  clear hW0
  have hseq := all1_seq 8 gj g b1 b2 d j0 (w.heap.size + 1) W0 (hj.keep0 K0) (hd.keep0 K0) ho hb b1'
  have hlts : ∀ x ∈ [w.heap.size + 1, gj, g, b1, b2], x < W0.heap.size ∧ x ≠ w.heap.size := fun x hx => by
    have e1 := hj.blk.lt
    have e2 := hd.dev.lt
    have e3 := hd.bits.lt
    have e4 := hd.worn.lt
    simp only [List.mem_cons, List.not_mem_nil, or_false] at hx
    omega
  have HLT := Lib.hid hlts
  have hgjn : gj ≠ w.heap.size := (hlts gj (by simp)).2
  generalize sortE (entsJ (ownW d j0.base) j0.many (d.nw / 4)) = L at *
  have HLN := Lib.hid hLn
  clear hLn hj hd ho hb hlts
  refine wpIn_rangeB (F := Fence.wide) (n := 9) (Lo := LoU (W0.heap.size + 2)) (ps := #[11]) rfl (by omega) (gf := 99) (lb := #[.pointer (some ⟨w.heap.size + 1, 0, none⟩)]) rfl trivial (enters_of Try.func99 (by kernel_rfl) rfl)
    hseq KA.trans (fun W o o' ho hc => KA.turn (fun hm => by have := HLT.out _ hm; omega) (by omega) o' ho hc) (Below.refl _ _) (fun _ => rfl)
    (fun pre W => ∃ v, W.ownsRow W0.heap.size 46 2 v pre.length (pre.flatMap entC) ∧ (pre = [] → v = .slice none 0 0) ∧ Blk W w.heap.size 36 #[v] ∧ Keep [w.heap.size] W0 W)
    (fun _ _ _ => False) ?hI ?hIx ⟨_, World.ownsRow_nil _ _ _ _, fun _ => rfl, b0, Keep.refl _ _⟩
    (fun x a1 W => ∃ g5 : Nat, Blk W g5 46 (entC x).toArray ∧ a1 = { tmps := #[.pointer (some ⟨gj, 0, none⟩), undef, .slice none 0 0, .pointer (some ⟨w.heap.size, 0, none⟩), .func (.func 99) #[] #[.pointer (some ⟨w.heap.size + 1, 0, none⟩)], .pointer (some ⟨g5, 0, none⟩), .pointer (some ⟨gj, 0, none⟩),
      .func (.func 99) #[] #[.pointer (some ⟨w.heap.size + 1, 0, none⟩)], .func (.func 99) #[] #[.pointer (some ⟨w.heap.size + 1, 0, none⟩)], .bool true, .func (.func 99) #[] #[.pointer (some ⟨w.heap.size + 1, 0, none⟩)], .agg (entC x).toArray, undef, undef, undef, undef, undef], defers := [] })
    ?hPA (fun W W2 hW hk => KA.keep0 hk (fun x hx => by have := (HLT.out x hx).1; omega)) ?assign ?body ?done ?stop
  case hI =>
    rintro pre X Y row ⟨v, h1, h2, h3, h4⟩ hg hr
    have k := Keep.of_grown hg
    have hno : ∀ y t cs, t ≠ 33 → Blk X y t cs → y ∉ row.toList := fun y t cs ht hbk hm => by
      obtain ⟨o, e, ⟨_, hc⟩ | ⟨_, _, cs', fr, rfl⟩⟩ := hr y (by simpa using hm)
      · rw [show X.heap[y]? = _ from hbk] at e; cases e; cases hc
      · rw [show X.heap[y]? = _ from hbk] at e; cases e; exact ht rfl
    refine ⟨v, own_keep h1 k (fun y hy hm => ?_), h2, h3.keep k (hno _ _ _ (by decide) h3), h4.trans k (fun y hy hlt => ?_)⟩
    · obtain ⟨cs, fr, hh⟩ := row_typed h1 y (by simp [hy])
      obtain ⟨o, e, ⟨_, hc⟩ | ⟨_, _, cs', fr', rfl⟩⟩ := hr y (by simpa using hm)
      · rw [hh] at e; cases e; cases hc
      · rw [hh] at e; cases e
    · obtain ⟨o, e, ⟨h5, hc⟩ | ⟨_, h5, cs', fr', rfl⟩⟩ := hr y (by simpa using hy)
      · omega
      · omega
  case hIx => exact fun _ _ _ _ _ hs _ _ => hs.elim
  case hPA =>
    rintro x a1 _ X Y row ⟨g5, h1, h2⟩ hg hr
    exact ⟨g5, blk_own (β := Unit) _ _ (fun _ => _) () X Y row h1 hg hr, h2⟩
  case assign =>
    rintro l x W K' hW hK'
    gi_wp2_with (refine stopIn_store 46 (.tmp 5) (.tmp 11) rfl ?_)
    constructor
    refine wpListIn_store_all rfl 46 (.tmp 5) (.tmp 11) rfl rfl rfl (vs := entC x) agg_entry.2 (Blk.new _ _ _) (entC_one _) rfl ?_
    intro W1 d1 kk1
    have kr : Keep [] W W1 := ((Keep.refl [] W).alloc _).trans kk1 (fun y hy h => by simp at hy h; omega)
    gi_wp2
    exact hK' _ _ kr ⟨_, d1, rfl⟩
  case body =>
    rintro l pre x a1 W hW ⟨v, hrow, hnil, hv, hK⟩ ⟨g5, hb5, rfl⟩ hpre
    have hlen : pre.length + 1 ≤ L.length := by have := hpre.length_le; simpa using this
    have hc := hv.cell 0
    simp at hc
    have c50 := hb5.cell 0
    have c51 := hb5.cell 1
    simp [entC] at c50 c51
    obtain ⟨A, c, rfl⟩ := own_shape hrow
    have hne := own_blk_ne hrow hv (by decide)
    have hL1 := HLN.out
    have HPR := Lib.hid hrow
    have HV := Lib.hid hv
    have HK := Lib.hid hK
    have HNIL := Lib.hid hnil
    obtain ⟨xs, xw⟩ := x
    dsimp only at c50 c51
    have hB : W0.heap.size ≤ W.heap.size := by omega
    clear hK hv hnil hpre
    gi_wp2_with (gi_at_builtin; refine wpListIn_append_oneJ rfl (.tmp 12) (.tmp 14) 36 rfl slice_entry hrow rfl rfl (us := entC (xs, xw)) rfl (entC_one _) hB (by omega) (by unfold maxLen; omega) ?_; intro v' w1 hown1 hk1 hkk; obtain ⟨A', c', rfl⟩ := own_shape hown1; have hv1 := HV.out.keep hk1 (by simpa using hne); have hc1 := hv1.cell 0; have hf1 := hv1.frozen 0; simp at hc1)
    obtain ⟨n1, n2, n3⟩ := boxed_append HPR.out HV.out (by decide) hk1 hown1
    have hob := row_baseJ HPR.out
    have hW1 : KeepsFrom W0.heap.size W (w1.setCell ⟨w.heap.size, 0, none⟩ (.slice A' (pre.length + 1) c')) := n3.from (fun y hy => by
      rcases List.mem_cons.1 hy with rfl | hy
      · exact .inl (by omega)
      · obtain ⟨cs, fr, hh⟩ := row_typed HPR.out y hy
        exact .inr ⟨_, _, _, hh⟩)
    have ks := keep_set w1 w.heap.size 0 (.slice A' (pre.length + 1) c')
    have hW2 : KA (W0.heap.size + 2) [w.heap.size + 1, gj, g, b1, b2] gj g j0.base W (w1.setCell ⟨w.heap.size, 0, none⟩ (.slice A' (pre.length + 1) c')) := by
      have hbx : ∃ (cs : Array Value) (t : Nat) (fr : Nat × Nat), W.heap[w.heap.size]? = some (.cells cs t fr) ∧ t ≠ 33 ∧ (t = 46 → cs.size ≠ 2) := ⟨_, _, _, HV.out, by decide, fun h => absurd h (by decide)⟩
      rcases hkk with h0 | ⟨g6, cs, cap, hv6, hg6, hcs, hcap⟩
      · refine KA.keep (F := [w.heap.size]) ((h0.mono (by simp)).trans ks (fun y hy _ => hy)) (fun x hx => ⟨by have := (HLT.out x hx).1; omega, by simp; exact (HLT.out x hx).2⟩) (by simp; exact hgjn) (fun x hx _ => ?_)
        simp at hx
        subst hx
        exact hbx
      · have hb6 : W0.heap.size ≤ g6 := hob g6 (by rw [hv6]; simp [Value.ownBlock])
        refine KA.keep (F := [w.heap.size, g6]) (n3.mono (fun y hy _ => by rw [hv6] at hy; simpa [Value.ownBlock] using hy)) (fun x hx => ⟨by have := (HLT.out x hx).1; omega, by have := HLT.out x hx; simp; omega⟩) (by have := HLT.out gj (by simp); simp; omega) (fun x hx _ => ?_)
        simp only [List.mem_cons, List.not_mem_nil, or_false] at hx
        rcases hx with rfl | rfl
        · exact hbx
        · refine ⟨_, _, _, hg6, by decide, fun _ => ?_⟩
          have hp : pre.length ≠ 0 := fun h0 => by
            have := HNIL.out (List.length_eq_zero_iff.1 h0)
            rw [hv6] at this
            cases this
          omega
    refine ⟨hW1, hW2, .slice A' (pre.length + 1) c', ?_, fun h => absurd h (by simp), n1, HK.out.trans n3 (fun y hy hlt => ?_)⟩
    · rw [List.flatMap_append]
      simpa using n2
    · rcases List.mem_cons.1 hy with rfl | hy
      · simp
      · have := hob y hy
        omega
  case done =>
    rintro D W hD ⟨v, hrow, hnil, hv, hK⟩ hD2
    have hc := hv.cell 0
    simp at hc
    obtain ⟨A, c, rfl⟩ := own_shape hrow
    have HR := Lib.hid hrow
    have HK := Lib.hid hK
    clear hrow hnil hv hK
    gi_wp2
    refine leavesM_marksJ [D] W (by simp) (fun D' hD' => by simp at hD'; subst hD'; exact hD2) (fun W' hk => ?_)
    have hne : ∀ y, (Value.slice A L.length c).ownBlock = some y → y ∉ [D] := fun y hy hm => by
      simp at hm
      subst hm
      obtain ⟨cs, fr, hh⟩ := row_typed HR.out y (by simp [hy])
      rw [hD2] at hh
      cases hh
    exact ⟨_, by simp [results, Try.results18, go_sem], A, c, rfl, own_base (own_keep HR.out hk hne) (by omega), (K0.trans HK.out (fun y hy hlt => by simp at hy; omega)).trans hk (fun y hy hlt => by simp at hy; omega)⟩
  case stop =>
    rintro D c pre W _ hpre hF _
    exact hF.elim
end Go.Proofs.Yteanpgkonhdbpaa
