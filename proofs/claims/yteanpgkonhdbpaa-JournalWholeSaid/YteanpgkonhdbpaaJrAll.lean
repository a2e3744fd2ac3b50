/- All entries by their numbers, as an iterator; walked. Condition: the device is one that may be. -/
import Derived.Test.YteanpgkonhdbpaaJrOpen
import Derived.Test.YteanpgkonhdbpaaJrSort
namespace Go.Proofs.Yteanpgkonhdbpaa
open Go.RowKit
attribute [local go_sem] Oper.semAt_some

/-- What the iterator over all entries rests on. -/
structure KA (B2 : Nat) (C : List Nat) (gj g base : Nat) (W W' : World) : Prop where
  kj : KJ C gj g base W W'
  oth : KeepsFrom B2 W W'
  u32 : ∀ (r : Nat) (cs : Array Value) (fr : Nat × Nat), W.heap[r]? = some (.cells cs 33 fr) → W'.heap[r]? = W.heap[r]?
  ent : ∀ (r : Nat) (cs : Array Value) (fr : Nat × Nat), W.heap[r]? = some (.cells cs 46 fr) → cs.size = 2 → W'.heap[r]? = W.heap[r]?
section
variable {B2 : Nat} {C : List Nat} {gj g base : Nat} {A B D : World}
theorem KA.refl (B2 : Nat) (C : List Nat) (gj g base : Nat) (W : World) : KA B2 C gj g base W W := ⟨KJ.refl _ _ _ _ _, KeepsFrom.refl _ _, fun _ _ _ _ => rfl, fun _ _ _ _ _ => rfl⟩
theorem KA.trans (h : KA B2 C gj g base A B) (k : KA B2 C gj g base B D) : KA B2 C gj g base A D :=
  ⟨h.kj.trans k.kj, h.oth.trans k.oth, fun r cs fr e => (k.u32 r cs fr ((h.u32 r cs fr e).trans e)).trans (h.u32 r cs fr e), fun r cs fr e h2 => (k.ent r cs fr ((h.ent r cs fr e h2).trans e) h2).trans (h.ent r cs fr e h2)⟩
theorem KA.turn {W : World} {l : Nat} {o : Obj} (hC : l ∉ C) (hl : l < B2) (o' : Obj) (ho : W.heap[l]? = some o) (hc : o.isCells = false) : KA B2 C gj g base W (W.putObj l o') :=
  ⟨⟨same_putO hC o', fun j hj hb => ⟨j, ⟨blk_putObj o' hj.blk ho hc⟩, hb⟩⟩, ⟨(keep_putObj W l o').size, fun x o2 hx ho2 _ => (World.putObj_heap_other (by omega)).trans ho2⟩,
    fun r cs fr e => World.putObj_heap_other (fun hh => by subst hh; rw [ho] at e; cases e; cases hc), fun r cs fr e _ => World.putObj_heap_other (fun hh => by subst hh; rw [ho] at e; cases e; cases hc)⟩
theorem KA.keep {F : List Nat} (k : Keep F A B) (hC : ∀ x ∈ C, x < A.heap.size ∧ x ∉ F) (hg : gj ∉ F) (hF : ∀ x ∈ F, x < A.heap.size → ∃ (cs : Array Value) (t : Nat) (fr : Nat × Nat), A.heap[x]? = some (.cells cs t fr) ∧ t ≠ 33 ∧ (t = 46 → cs.size ≠ 2)) : KA B2 C gj g base A B := by
  refine ⟨KJ.keep k hC hg, ⟨k.size, fun x o _ ho hc => (k.block x (Array.getElem?_eq_some_iff.1 ho).1 (fun hm => ?_)).trans ho⟩, fun r cs fr e => k.block r (Array.getElem?_eq_some_iff.1 e).1 (fun hm => ?_), fun r cs fr e h2 => k.block r (Array.getElem?_eq_some_iff.1 e).1 (fun hm => ?_)⟩
  · obtain ⟨cs, t, fr, h1, _⟩ := hF x hm (Array.getElem?_eq_some_iff.1 ho).1
    rw [ho] at h1
    cases h1
    cases hc
  · obtain ⟨cs', t, fr', h1, h2, _⟩ := hF r hm (Array.getElem?_eq_some_iff.1 e).1
    rw [e] at h1
    cases h1
    exact h2 rfl
  · obtain ⟨cs', t, fr', h1, _, h3⟩ := hF r hm (Array.getElem?_eq_some_iff.1 e).1
    rw [e] at h1
    cases h1
    exact h3 rfl h2
theorem KA.keep0 (k : Keep [] A B) (hC : ∀ x ∈ C, x < A.heap.size) : KA B2 C gj g base A B := KA.keep k (fun x hx => ⟨hC x hx, by simp⟩) (by simp) (by simp)
end
/-- All entries of a journal's sectors, one sector behind the other. -/
def entsJ (W : Wds) (m K : Nat) : List (Nat × Nat) := (List.range m).flatMap fun s => (sectE W s K).map (·.2)
theorem entsJ_snoc (W : Wds) (m K : Nat) : entsJ W (m + 1) K = entsJ W m K ++ (sectE W m K).map (·.2) := by
  unfold entsJ
  rw [List.range_succ, List.flatMap_append]
  simp
theorem mem_entsJ {W : Wds} {m K : Nat} {e : Nat × Nat} : e ∈ entsJ W m K ↔ ∃ s a, s < m ∧ a < K ∧ entJ W s a = some e := by
  unfold entsJ
  rw [List.mem_flatMap]
  constructor
  · rintro ⟨s, hs, he⟩
    obtain ⟨x, hx, rfl⟩ := List.mem_map.1 he
    obtain ⟨h1, h2⟩ := mem_sectE.1 hx
    exact ⟨s, x.1, List.mem_range.1 hs, h1, h2⟩
  · rintro ⟨s, a, hs, ha, he⟩
    exact ⟨s, List.mem_range.2 hs, List.mem_map.2 ⟨(a, e), mem_sectE.2 ⟨ha, he⟩, rfl⟩⟩
theorem entsJ_pos {W : Wds} {m K : Nat} : ∀ e ∈ entsJ W m K, 1 ≤ e.1 := fun e he => by
  obtain ⟨s, a, _, _, h⟩ := mem_entsJ.1 he
  exact (ent4_pos h).1
theorem entsJ_lt {W : Wds} {m K : Nat} : ∀ e ∈ entsJ W m K, e.1 ≤ 1073741824 := fun e he => by
  obtain ⟨s, a, _, _, h⟩ := mem_entsJ.1 he
  exact (ent4_pos h).2.1
abbrev encE1 (x : Nat × Nat) : Array Value := #[.agg (entC x).toArray]
theorem all_any0 (gj : Nat) (w : World) : Calls Try.prog 65 #[.pointer (some ⟨gj, 0, none⟩)] w fun e w' =>
    e = .returned (.func (.func 99) #[] #[.pointer (some ⟨w.heap.size, 0, none⟩)]) ∧ w.alloc (.cells #[.pointer (some ⟨gj, 0, none⟩)] 28) = w' := by
  go_enter Try.func65, Try.ntmps65
  go_wp2
  go_ret
  exact ⟨rfl, rfl⟩

theorem OwnFrom.at_ {β : Type} {B : Nat} {I : β → World → Prop} (h : OwnFrom B I) (s : β) : OwnFrom B (fun (_ : Unit) W => I s W) := fun _ X Y row hs hg hr => h s X Y row hs hg hr
/-- Cells of the type uint32, from a block on. -/
abbrev LoU (lb r : Nat) (o : Obj) : Prop := lb ≤ r ∧ ∃ (cs : Array Value) (fr : Nat × Nat), o = .cells cs 33 fr
theorem leavesM_marksI {F : Fence} {n : Nat} {P : Program} {fn : Func} {tmps : Array Value} {R : Ending → World → Prop} {B : Nat} {I : World → Prop} (hI : OwnFrom B (fun (_ : Unit) W => I W)) : ∀ (Ds : List Nat) (W : World), Ds.Nodup → (∀ D ∈ Ds, B ≤ D ∧ W.heap[D]? = some (.deferred (some []))) → I W →
    (∀ W', I W' → LeavesIn F n P fn tmps R [] .returning W') → LeavesInM F n P fn tmps R (marksJ Ds) .returning W
  | [], W, _, _, hi, h => h W hi
  | D :: Ds, W, hn, hd, hi, h => by
    have h1 := hd D (by simp)
    rw [List.nodup_cons] at hn
    refine ⟨by simp, .inl ⟨D, _, rfl, run_takeDeferred h1.2, leavesM_marksI hI Ds _ hn.2 (fun D' hD' => ⟨(hd D' (by simp [hD'])).1, ?_⟩) ?_ h⟩⟩
    · exact (World.putObj_heap_other (fun e => hn.1 (by subst e; exact hD'))).trans (hd D' (by simp [hD'])).2
    · exact hI.putObj (s := ()) _ hi h1.1 h1.2 rfl

set_option maxRecDepth 100000 in
set_option maxHeartbeats 4000000 in
theorem all1_seq (n : Nat) (gj g b1 b2 : Nat) (d : Dev) (j0 : JS) (Bj : Nat) (w : World) (hj : JrAt w gj g j0) (hd : DevAt w g b1 b2 d) (ho : d.Ok) (hb : j0.base + j0.many ≤ d.ns) (hBj : Blk w Bj 28 #[.pointer (some ⟨gj, 0, none⟩)]) :
    SeqT Fence.wide n Try.prog (LoU (w.heap.size + 2)) 99 #[.pointer (some ⟨Bj, 0, none⟩)] encE1 (KA (w.heap.size + 2) [Bj, gj, g, b1, b2] gj g j0.base) (sortE (entsJ (ownW d j0.base) j0.many (d.nw / 4))) w := by
  intro l0 J Jx W hW hge hJ hJx hY h0
  have hk0 : Keep [] w W := keepB hW
  have hst : ∀ W', KA (w.heap.size + 2) [Bj, gj, g, b1, b2] gj g j0.base W W' → JrAt W' gj g j0 ∧ DevAt W' g b1 b2 d ∧ Blk W' Bj 28 #[.pointer (some ⟨gj, 0, none⟩)] := fun W' hk => by
    have hb : ∀ x t cs, x ∈ [Bj, gj, g, b1, b2] → Blk w x t cs → Blk W' x t cs := fun x t cs hx hb => (hk.kj.same x hx).trans (hb.keep0 hk0)
    exact ⟨⟨hb gj _ _ (by simp) hj.blk⟩, ⟨hb g _ _ (by simp) hd.dev, hb b1 _ _ (by simp) hd.bits, hb b2 _ _ (by simp) hd.worn⟩, hb Bj _ _ (by simp) hBj⟩
  have HST := Lib.hid hst
  have HO := Lib.hid ho
  have HB := Lib.hid hb
  have hnw := ho.nw2
  have hns := ho.ns2
  have hK : d.nw / 4 ≤ 256 := by omega
  generalize hKK : d.nw / 4 = K at *
  have HKK : Hid (d.nw / 4 = K) := hKK
  have HPOS : Hid (∀ e ∈ entsJ (ownW d j0.base) j0.many K, 1 ≤ e.1) := entsJ_pos
  have HLE : Hid (∀ e ∈ sortE (entsJ (ownW d j0.base) j0.many K), e.1 ≤ 1073741824) := fun e he => entsJ_lt e (sort_mem he)
  have hmany : j0.many ≤ 64 := by omega
  clear hst hj hd hBj hW hk0 ho hb hnw hKK
  refine callsIn_wide.2 ?_
  rw [← callsIn_wide (n := 9)]
  refine callsIn_of_wp_marks Try.func99 rfl trivial ?_ rfl
  simp only [Try.ntmps99, List.size_toArray, List.length_cons, List.length_nil, Nat.reduceAdd, Nat.reduceSub, Array.replicate_succ, Array.replicate_zero, List.push_toArray, List.append_toArray, List.nil_append, List.cons_append]
  gi_wp2
  obtain ⟨W0, hW0⟩ : ∃ W0, W.alloc (.cells #[.int .u32 0] 33) = W0 := ⟨_, rfl⟩
  have k0 : Keep [] W W0 := by rw [← hW0]; exact (Keep.refl [] W).alloc _
  have b3 : Blk W0 W.heap.size 33 #[.int .u32 0] := by rw [← hW0]; exact Blk.new _ _ _
  have hlt0 : ∀ x ∈ [Bj, gj, g, b1, b2], x < W.heap.size := fun x hx => by
    obtain ⟨h1, h2, h3⟩ := HST.out W (KA.refl _ _ _ _ _ _)
    have e1 := h1.blk.lt
    have e2 := h2.dev.lt
    have e3 := h2.bits.lt
    have e4 := h2.worn.lt
    have e5 := h3.lt
    simp only [List.mem_cons, List.not_mem_nil, or_false] at hx
    omega
  have HLT := Lib.hid hlt0
  have HJ0 := hJ.k0 h0 k0
  have hka0 : KA (w.heap.size + 2) [Bj, gj, g, b1, b2] gj g j0.base W W0 := KA.keep0 k0 hlt0
  rw [hW0]
  clear hW0 hlt0 h0
  have HSO := Lib.hid (sort_sorted (entsJ (ownW d j0.base) j0.many K))
  have HBA : Hid (∀ (k last : Nat), k ≤ (sortE (entsJ (ownW d j0.base) j0.many K)).length → (k = 0 ∧ last = 0 ∨ ∃ x, 1 ≤ k ∧ (sortE (entsJ (ownW d j0.base) j0.many K))[k - 1]? = some x ∧ last = x.1) → bestE last (entsJ (ownW d j0.base) j0.many K) = ((sortE (entsJ (ownW d j0.base) j0.many K))[k]?).getD (0, 0)) := fun k last h1 h2 => best_at HPOS.out k last h1 h2
  have HLPOS : Hid (∀ e ∈ sortE (entsJ (ownW d j0.base) j0.many K), 1 ≤ e.1) := fun e he => HPOS.out e (sort_mem he)
  generalize hLL : sortE (entsJ (ownW d j0.base) j0.many K) = L at *
  have HLL := Lib.hid hLL
  clear hLL
  clear HPOS
  refine wpIn_loop (fun a' wr => ∃ (k last : Nat) (Ds : List Nat) (u4 u5 u7 u8 u9 u10 u11 u12 u13 u14 u15 u16 u17 u18 u19 u20 u21 u22 u23 u24 u25 u26 u27 u28 u29 u30 u31 u32 u33 u34 u35 u36 u37 u38 u39 u40 u41 u42 u43 u44 u45 u46 u47 u48 u49 : Value), (k ≤ L.length ∧ (k = 0 ∧ last = 0 ∨ ∃ x, 1 ≤ k ∧ L[k - 1]? = some x ∧ last = x.1) ∧ last ≤ 1073741824 ∧ J (L.take k) wr ∧ KA (w.heap.size + 2) [Bj, gj, g, b1, b2] gj g j0.base W wr ∧ Blk wr W.heap.size 33 #[.int .u32 (last : Int)] ∧ W.heap.size + 1 ≤ wr.heap.size ∧ Ds.Nodup ∧ (∀ D ∈ Ds, W.heap.size + 1 ≤ D ∧ wr.heap[D]? = some (.deferred (some [])))) ∧
    a' = { tmps := #[Value.func (.yield l0) #[] #[], Value.pointer (some ⟨Bj, 0, none⟩), undef, Value.pointer (some ⟨W.heap.size, 0, none⟩), u4, u5, undef, u7, u8, u9, u10, u11, u12, u13, u14, u15, u16, u17, u18, u19, u20, u21, u22, u23, u24, u25, u26, u27, u28, u29, u30, u31, u32, u33, u34, u35, u36, u37, u38, u39, u40, u41, u42, u43, u44, u45, u46, u47, u48, u49], defers := marksJ Ds }) (fun _ wr => 1073741825 - (intOf ((wr.cell? ⟨W.heap.size, 0, none⟩).getD undef)).toNat) ?start ?round
  case start => exact ⟨0, 0, [], undef, undef, undef, undef, undef, undef, undef, undef, undef, undef, undef, undef, undef, undef, undef, undef, undef, undef, undef, undef, undef, undef, undef, undef, undef, undef, undef, undef, undef, undef, undef, undef, undef, undef, undef, undef, undef, undef, undef, undef, undef, undef, undef, undef, undef, ⟨Nat.zero_le _, .inl ⟨rfl, rfl⟩, by omega, HJ0, hka0, b3, by have := b3.lt; omega, List.nodup_nil, fun D hD => absurd hD (by simp)⟩, rfl⟩
  case round =>
    clear k0 b3 HJ0 hka0
    rintro a' wr ⟨k, last, Ds, u4, u5, u7, u8, u9, u10, u11, u12, u13, u14, u15, u16, u17, u18, u19, u20, u21, u22, u23, u24, u25, u26, u27, u28, u29, u30, u31, u32, u33, u34, u35, u36, u37, u38, u39, u40, u41, u42, u43, u44, u45, u46, u47, u48, u49, ⟨hk, hl, hlb, hjw, hka, hb3, hsz, hnd, hds⟩, rfl⟩
    have hcl : (intOf ((wr.cell? ⟨W.heap.size, 0, none⟩).getD undef)).toNat = last := by rw [hb3.cell]; simp [intOf]
    have HCL := Lib.hid hcl
    have HNOW := HST.out wr hka
    have HHL := Lib.hid hl
    have HJW := Lib.hid hjw
    have HKA := Lib.hid hka
    have HB3 := Lib.hid hb3
    have HND := Lib.hid hnd
    have HDS := Lib.hid hds
    have HBE := Lib.hid (HBA.out k last hk hl)
    clear hcl hl hjw hka hb3 hnd hds
    gi_wp2_with (refine stopIn_store 46 (.tmp 4) (.tmp 8) rfl ?_)
    constructor
    refine wpListIn_store_all rfl 46 (.tmp 4) (.tmp 8) rfl rfl rfl (vs := entC (0, 0)) agg_entry.2 (Blk.new _ _ _) (entC_one _) rfl ?_
    intro w1 d4 kk4
    have k1 : Keep [] wr w1 := ((Keep.refl [] wr).alloc _).trans kk4 (fun y hy h => by simp at hy h; omega)
    clear kk4
    obtain ⟨hj1, hd1, hbj1⟩ := HNOW
    have cj := (hbj1.keep0 k1).cell 0
    have cm := (hj1.keep0 k1).cells.2.2.1
    simp at cj
    have HJ1 := Lib.hid (hj1.keep0 k1)
    have HD1 := Lib.hid (hd1.keep0 k1)
    have HBJ1 := Lib.hid (hbj1.keep0 k1)
    clear hj1 hd1 hbj1
    gi_wp2
    refine wpIn_loop (fun a' w2 => ∃ (s : Nat) (Ds' : List Nat) (v5 v7 v14 v15 v16 v17 v18 v19 v20 v21 v22 v23 v24 v25 v26 v27 v28 v29 v30 v31 v32 v33 v34 v35 v36 v37 v38 : Value), (s ≤ j0.many ∧ Ds'.Nodup ∧ (∀ D ∈ Ds', W.heap.size + 1 ≤ D ∧ w2.heap[D]? = some (.deferred (some []))) ∧ Blk w2 wr.heap.size 46 (entC (bestE last (entsJ (ownW d j0.base) s K))).toArray ∧ Keep [wr.heap.size] w1 w2) ∧
      a' = { tmps := #[Value.func (.yield l0) #[] #[], Value.pointer (some ⟨Bj, 0, none⟩), undef, Value.pointer (some ⟨W.heap.size, 0, none⟩), Value.pointer (some ⟨wr.heap.size, 0, none⟩), v5, undef, v7, Value.agg (entC (0, 0)).toArray, Value.pointer (some ⟨gj, 0, none⟩), Value.pointer (some ⟨gj, 0, none⟩), Value.pointer (some ⟨gj, 2, none⟩), Value.int .i64 (j0.many : Int), Value.int .i64 (s : Int), v14, v15, v16, v17, v18, v19, v20, v21, v22, v23, v24, v25, v26, v27, v28, v29, v30, v31, v32, v33, v34, v35, v36, v37, v38, u39, u40, u41, u42, u43, u44, u45, u46, u47, u48, u49], defers := marksJ Ds' }) (fun a' _ => j0.many - (intOf (a'.tmps.getD 13 undef)).toNat) ?start2 ?round2
    case start2 =>
      refine ⟨0, Ds, _, _, _, _, _, _, _, _, _, _, _, _, _, _, _, _, _, _, _, _, _, _, _, _, _, _, _, ⟨Nat.zero_le _, HND.out, fun D hD => ?_, d4, Keep.refl _ _⟩, rfl⟩
      have h1 := HDS.out D hD
      exact ⟨h1.1, (k1.block D (Array.getElem?_eq_some_iff.1 h1.2).1 (by simp)).trans h1.2⟩
    case round2 =>
      clear d4 cj cm
      rintro a' w2 ⟨s, Ds', v5, v7, v14, v15, v16, v17, v18, v19, v20, v21, v22, v23, v24, v25, v26, v27, v28, v29, v30, v31, v32, v33, v34, v35, v36, v37, v38, ⟨hs, hnd2, hds2, hb4, hk2⟩, rfl⟩
      have hg4 : ∀ x ∈ [Bj, gj, g, b1, b2], x ≠ wr.heap.size := fun x hx => by
        have h1 := HLT.out x hx
        omega
      have hj2 := HJ1.out.keep hk2 (by simp; exact hg4 gj (by simp))
      have hd2 := HD1.out.keep hk2 (by simp; exact hg4 g (by simp)) (by simp; exact hg4 b1 (by simp)) (by simp; exact hg4 b2 (by simp))
      have cj := (HBJ1.out.keep hk2 (by simp; exact hg4 Bj (by simp))).cell 0
      simp at cj
      by_cases hlt : s < j0.many
      · have q6 : decide ((s : Int) < (j0.many : Int)) = true := decide_eq_true (by omega)
        have HDS2 := Lib.hid hds2
        have HND2 := Lib.hid hnd2
        gi_wp2_with (refine ⟨trivial, ?_⟩; refine (callsIn_wide.2 (ents_any gj s _)).mono ?_; rintro e W3 ⟨rfl, hW3⟩)
        have k3 : Keep [] w2 W3 := by rw [← hW3]; exact ((Keep.refl [] w2).alloc _).alloc _
        have bj : Blk W3 w2.heap.size 28 #[.pointer (some ⟨gj, 0, none⟩)] := by rw [← hW3]; exact (Blk.new _ _ _).alloc _
        have hz10 : (w2.alloc (.cells #[.pointer (some ⟨gj, 0, none⟩)] 28)).heap.size = w2.heap.size + 1 := by simp
        have bs : Blk W3 (w2.heap.size + 1) 3 #[.int .i64 (s : Int)] := by rw [← hW3, ← hz10]; exact Blk.new _ _ _
        have sz3 : W3.heap.size = w2.heap.size + 2 := by rw [← hW3]; simp
        have hb4' := hb4.keep0 k3
        have hlt4 := hb4.lt
        have hseq := ents1_seq 8 gj g b1 b2 d j0.base s w2.heap.size (w2.heap.size + 1) W3 ⟨_, hj2.keep0 k3, rfl⟩ (hd2.keep0 k3) HO.out (by have := HB.out; omega) bj bs
        rw [HKK.out, sectE_own] at hseq
        have hlts : ∀ x ∈ [w2.heap.size, w2.heap.size + 1, g, b1, b2], x < W3.heap.size := fun x hx => by
          have h3 := hd2.dev.lt
          have h4 := hd2.bits.lt
          have h5 := hd2.worn.lt
          simp only [List.mem_cons, List.not_mem_nil, or_false] at hx
          omega
        have hnes : ∀ x ∈ [w2.heap.size, w2.heap.size + 1, g, b1, b2], x ≠ wr.heap.size := fun x hx => by
          simp only [List.mem_cons, List.not_mem_nil, or_false] at hx
          rcases hx with rfl | rfl | rfl | rfl | rfl
          · omega
          · omega
          · exact hg4 _ (by simp)
          · exact hg4 _ (by simp)
          · exact hg4 _ (by simp)
        have hgjn : gj ≠ wr.heap.size := hg4 gj (by simp)
        have HLS := Lib.hid (And.intro hlts hnes)
        have HK2 := Lib.hid hk2
        clear hW3 hz10 hj2 hd2 hb4 hk2 hds2 hnd2 cj bj bs hnes
        refine wpIn_rangeFunc_ownH (F := Fence.wide) (n := 9) (ps := #[19, 20]) rfl (by omega) (gf := 95) (lb := #[.pointer (some ⟨w2.heap.size, 0, none⟩), .pointer (some ⟨w2.heap.size + 1, 0, none⟩)]) rfl trivial (enters_of Try.func95 (by kernel_rfl) rfl)
          hseq.stops KJ.trans (KJ.turn hlts) (Below.refl _ _) (fun _ => rfl)
          (fun pre W => Blk W wr.heap.size 46 (entC ((pre.map (·.2)).foldl (pickE last) (bestE last (entsJ (ownW d j0.base) s K)))).toArray ∧ Keep [wr.heap.size] W3 W)
          (fun _ _ _ => False)
          ?hI ?hIx ⟨hb4', Keep.refl _ _⟩
          (fun m a' V9 => ∃ g7 : Nat, g7 ≠ wr.heap.size ∧ Blk V9 g7 46 (entC m.2).toArray ∧ a' = { tmps := #[Value.func (.yield l0) #[] #[], Value.pointer (some ⟨Bj, 0, none⟩), undef, Value.pointer (some ⟨W.heap.size, 0, none⟩), Value.pointer (some ⟨wr.heap.size, 0, none⟩), Value.int .i64 (s : Int), undef, Value.pointer (some ⟨g7, 0, none⟩), Value.agg (entC (0, 0)).toArray, Value.pointer (some ⟨gj, 0, none⟩), Value.pointer (some ⟨gj, 0, none⟩), Value.pointer (some ⟨gj, 2, none⟩), Value.int .i64 (j0.many : Int), Value.int .i64 (s : Int), Value.bool true, Value.int .i64 (s : Int), Value.pointer (some ⟨gj, 0, none⟩), Value.int .i64 (s : Int), Value.func (.func 95) #[] #[.pointer (some ⟨w2.heap.size, 0, none⟩), .pointer (some ⟨w2.heap.size + 1, 0, none⟩)], Value.int .i64 (m.1 : Int), Value.agg (entC m.2).toArray, v21, v22, v23, v24, v25, v26, v27, v28, v29, v30, v31, v32, v33, v34, v35, v36, v37, v38, u39, u40, u41, u42, u43, u44, u45, u46, u47, u48, u49], defers := [] }) ?hAx ?assign ?body ?done ?stop
        case hI =>
          intro pre X Y row hs hg hr
          exact ⟨blk_own (β := Unit) _ _ (fun _ => _) () X Y row hs.1 hg hr, keep_own (β := Unit) (Nat.le_refl _) () X Y row hs.2 hg hr⟩
        case hIx => exact fun _ _ _ _ _ hs _ _ => hs
        case hAx =>
          rintro _ m a' X Y row ⟨g7, h0, h1, h2⟩ hg hr
          exact ⟨g7, h0, blk_own (β := Unit) _ _ (fun _ => _) () X Y row h1 hg hr, h2⟩
        case assign =>
          rintro l pre m V K' hi hKK'
          have hVz := hi.2.size
          gi_wp2_with (refine stopIn_store 46 (.tmp 7) (.tmp 20) rfl ?_)
          constructor
          refine wpListIn_store_all rfl 46 (.tmp 7) (.tmp 20) rfl rfl rfl (vs := entC m.2) agg_entry.2 (Blk.new _ _ _) (entC_one _) rfl ?_
          intro W1 d1 kk1
          have kr : Keep [] V W1 := ((Keep.refl [] V).alloc _).trans kk1 (fun y hy h => by simp at hy h; omega)
          gi_wp2
          exact hKK' _ _ (Keep.from0 kr) (KJ.keep kr (fun x hx => ⟨Nat.lt_of_lt_of_le (HLS.out.1 x hx) hVz, by simp⟩) (by simp)) ⟨hi.1.keep0 kr, hi.2.then kr⟩ ⟨_, by omega, d1, rfl⟩
        case body =>
          rintro l pre m a' V hl ⟨r, hr⟩ ⟨hbv, hkv⟩ ⟨g7, hg7, hb7, rfl⟩ hlt2
          have hst : ((pre ++ [m]).map (·.2)).foldl (pickE last) (bestE last (entsJ (ownW d j0.base) s K)) = pickE last ((pre.map (·.2)).foldl (pickE last) (bestE last (entsJ (ownW d j0.base) s K))) m.2 := by rw [List.map_append, List.foldl_append]; rfl
          have HST2 := Lib.hid hst
          generalize (pre.map (·.2)).foldl (pickE last) (bestE last (entsJ (ownW d j0.base) s K)) = bb at *
          clear hst hlts
          have HBV := Lib.hid hbv
          have HKV := Lib.hid hkv
          have HB7 := Lib.hid hb7
          have HR := Lib.hid hr
          have hVz := hkv.size
          have c3 : V.cell? ⟨W.heap.size, 0, none⟩ = some (.int .u32 (last : Int)) := by
            have hx0 := HB3.out.lt
            rw [hkv.cell (p := ⟨W.heap.size, 0, none⟩) (by have := k3.size; have := HK2.out.size; have := k1.size; show W.heap.size < _; omega) (by simp; omega), k3.cell (p := ⟨W.heap.size, 0, none⟩) (by have := HK2.out.size; have := k1.size; show W.heap.size < _; omega) (by simp), HK2.out.cell (p := ⟨W.heap.size, 0, none⟩) (by have := k1.size; show W.heap.size < _; omega) (by simp; omega), k1.cell (p := ⟨W.heap.size, 0, none⟩) hx0 (by simp), HB3.out.cell]; rfl
          have c4 := hbv.cell 0
          have c7 := hb7.cell 0
          have c71 := hb7.cell 1
          simp [entC] at c4 c7 c71
          have hkeepKJ : ∀ V', Keep [wr.heap.size] V V' → KJ [w2.heap.size, w2.heap.size + 1, g, b1, b2] gj g j0.base V V' := fun V' hk => KJ.keep hk (fun x hx => ⟨Nat.lt_of_lt_of_le (HLS.out.1 x hx) hVz, by simp; exact HLS.out.2 x hx⟩) (by simp; exact hgjn)
          have HKJ := Lib.hid hkeepKJ
          clear hkeepKJ hbv hkv hb7 hr
          obtain ⟨ma, ms, mw⟩ := m
          obtain ⟨bs_, bw⟩ := bb
          dsimp only at c4 c7 c71 HB7
          by_cases h1 : last < ms
          · have q7 : decide ((last : Int) < (ms : Int)) = true := decide_eq_true (by omega)
            have q7n : (last < ms) = True := eq_true h1
            by_cases h3 : bs_ = 0
            · have HSE : Hid (pickE last (bs_, bw) (ms, mw) = (ms, mw)) := if_pos ⟨h1, .inl h3⟩
              have q8n : (bs_ = 0) = True := eq_true h3
              have q8 : ((bs_ : Int) == 0) = true := by rw [beq_iff_eq]; omega
              clear h1 h3
              gi_wp2_with (refine stopIn_store 46 (.tmp 4) (.tmp 37) rfl ?_)
              constructor
              refine wpListIn_store_all rfl 46 (.tmp 4) (.tmp 37) rfl rfl rfl (vs := entC (ms, mw)) agg_entry.2 HBV.out (entC_one _) rfl ?_
              intro V2 d2 kk2
              gi_wp2
              refine ⟨kk2.from (fun y hy => .inr (by simp at hy; subst hy; exact ⟨_, _, _, HBV.out⟩)), HKJ.out _ kk2, ?_, HKV.out.trans kk2 (fun y hy _ => hy)⟩
              rw [HST2.out, HSE.out]
              exact d2
            · have q8n : (bs_ = 0) = False := eq_false h3
              have q8 : ((bs_ : Int) == 0) = false := by rw [beq_eq_false_iff_ne]; omega
              by_cases h4 : ms < bs_
              · have HSE : Hid (pickE last (bs_, bw) (ms, mw) = (ms, mw)) := if_pos ⟨h1, .inr h4⟩
                have q9n : (ms < bs_) = True := eq_true h4
                have q9 : decide ((ms : Int) < (bs_ : Int)) = true := decide_eq_true (by omega)
                clear h1 h3 h4
                gi_wp2_with (refine stopIn_store 46 (.tmp 4) (.tmp 37) rfl ?_)
                constructor
                refine wpListIn_store_all rfl 46 (.tmp 4) (.tmp 37) rfl rfl rfl (vs := entC (ms, mw)) agg_entry.2 HBV.out (entC_one _) rfl ?_
                intro V2 d2 kk2
                gi_wp2
                refine ⟨kk2.from (fun y hy => .inr (by simp at hy; subst hy; exact ⟨_, _, _, HBV.out⟩)), HKJ.out _ kk2, ?_, HKV.out.trans kk2 (fun y hy _ => hy)⟩
                rw [HST2.out, HSE.out]
                exact d2
              · have HSE : Hid (pickE last (bs_, bw) (ms, mw) = (bs_, bw)) := if_neg (fun hh => by rcases hh.2 with h | h; exact h3 h; exact h4 h)
                have q9n : (ms < bs_) = False := eq_false h4
                have q9 : decide ((ms : Int) < (bs_ : Int)) = false := decide_eq_false (by omega)
                clear h1 h3 h4
                gi_wp2
                have hfin : Blk V wr.heap.size 46 (entC (((pre ++ [(ma, ms, mw)]).map (·.2)).foldl (pickE last) (bestE last (entsJ (ownW d j0.base) s K)))).toArray := by rw [HST2.out, HSE.out]; exact HBV.out
                exact (⟨KeepsFrom.refl _ _, KJ.refl _ _ _ _ _, hfin, HKV.out⟩ : KeepsFrom _ _ _ ∧ KJ _ _ _ _ _ _ ∧ _ ∧ _)
          · have HSE : Hid (pickE last (bs_, bw) (ms, mw) = (bs_, bw)) := if_neg (fun hh => h1 hh.1)
            have q7 : decide ((last : Int) < (ms : Int)) = false := decide_eq_false (by omega)
            have q7n : (last < ms) = False := eq_false h1
            clear h1
            gi_wp2
            have hfin : Blk V wr.heap.size 46 (entC (((pre ++ [(ma, ms, mw)]).map (·.2)).foldl (pickE last) (bestE last (entsJ (ownW d j0.base) s K)))).toArray := by rw [HST2.out, HSE.out]; exact HBV.out
            exact (⟨KeepsFrom.refl _ _, KJ.refl _ _ _ _ _, hfin, HKV.out⟩ : KeepsFrom _ _ _ ∧ KJ _ _ _ _ _ _ ∧ _ ∧ _)
        case done =>
          rintro D ys V hD hys ⟨hbv, hkv⟩ hD2
          have hys' : ys = sectE (ownW d j0.base) s K := hys
          subst hys'
          have hfold : Blk V wr.heap.size 46 (entC (bestE last (entsJ (ownW d j0.base) (s + 1) K))).toArray := by
            unfold bestE at hbv ⊢
            rw [entsJ_snoc, List.foldl_append]
            exact hbv
          have HFO := Lib.hid hfold
          have HKW := Lib.hid ((HK2.out.then k3).trans hkv (fun y hy _ => hy))
          have HDD : Hid ((D :: Ds').Nodup ∧ ∀ D' ∈ D :: Ds', W.heap.size + 1 ≤ D' ∧ V.heap[D']? = some (.deferred (some []))) := by
            have hlt' : ∀ D' ∈ Ds', D' < w2.heap.size := fun D' hD' => (Array.getElem?_eq_some_iff.1 (HDS2.out D' hD').2).1
            refine ⟨List.nodup_cons.2 ⟨fun h => by have := hlt' D h; omega, HND2.out⟩, fun D' hD' => ?_⟩
            rcases List.mem_cons.1 hD' with rfl | h
            · exact ⟨by have := k3.size; have := HK2.out.size; have := k1.size; omega, hD2⟩
            · have h1 := hlt' D' h
              have h2 := HDS2.out D' h
              have h3 : D' ≠ wr.heap.size := fun e => by
                have h4 := hb4'.lt
                have h5 : W3.heap[D']? = some (.deferred (some [])) := (k3.block D' h1 (by simp)).trans h2.2
                rw [e, show W3.heap[wr.heap.size]? = _ from hb4'] at h5
                cases h5
              refine ⟨h2.1, ?_⟩
              rw [hkv.block D' (by omega) (by simp; exact h3), k3.block D' h1 (by simp)]
              exact h2.2
          clear hbv hfold hkv hD2
          gi_wp2_with fail
          refine ⟨⟨s + 1, D :: Ds', ⟨by omega, HDD.out.1, HDD.out.2, HFO.out, HKW.out⟩, by omega, rfl⟩, ?_⟩
          show j0.many - ((s : Int) + 1).toNat < j0.many - (s : Int).toNat
          omega
        case stop =>
          rintro D c pre V _ hpre hF _
          exact hF.elim
      · have q6 : decide ((s : Int) < (j0.many : Int)) = false := decide_eq_false (by omega)
        have hse : s = j0.many := by omega
        rw [hse, HBE.out] at hb4
        have kw2 : Keep [] wr w2 := k1.trans hk2 (fun y hy hlt => by simp at hy; omega)
        have hjw2 := hJ.k0 HJW.out kw2
        have hkw2 : KA (w.heap.size + 2) [Bj, gj, g, b1, b2] gj g j0.base W w2 := HKA.out.trans (KA.keep0 kw2 (fun x hx => by have := HLT.out x hx; omega))
        have hb32 := HB3.out.keep0 kw2
        have HDS2 := Lib.hid hds2
        have HND2 := Lib.hid hnd2
        clear hk2 hj2 hd2 cj hds2 hnd2 kw2
        rcases Nat.lt_or_ge k L.length with hkl | hkl
        · rw [List.getElem?_eq_getElem hkl, Option.getD_some] at hb4
          have hpre : L.take k ++ [L[k]] <+: L := by
            rw [List.take_append_getElem hkl]
            exact List.take_prefix _ _
          have htk : L.take (k + 1) = L.take k ++ [L[k]] := (List.take_append_getElem hkl).symm
          have hpos := HLPOS.out L[k] (List.getElem_mem hkl)
          have hle := HLE.out L[k] (List.getElem_mem hkl)
          have hinc : last < L[k].1 := by
            rcases HHL.out with ⟨_, h0⟩ | ⟨x, h1, hx, h2⟩
            · omega
            · obtain ⟨hx1, rfl⟩ := List.getElem?_eq_some_iff.1 hx
              have := List.pairwise_iff_getElem.1 HSO.out (k - 1) k (by omega) hkl (by omega)
              omega
          have hnx : L[k + 1 - 1]? = some L[k] := by rw [Nat.add_sub_cancel, List.getElem?_eq_getElem hkl]
          obtain ⟨fn, tmps, assign, body, hy, hR⟩ := yieldAt_any (m' := 8) open_wide (hY (L.take k) L[k] w2 hjw2 hpre)
          dsimp only [encE1] at hy
          have HPRE := Lib.hid hpre
          have HTK := Lib.hid htk
          have HNX := Lib.hid hnx
          have HFO := Lib.hid (And.intro hpos (And.intro hle hinc))
          have HB4 := Lib.hid hb4
          have HB32 := Lib.hid hb32
          have HKW2 := Lib.hid hkw2
          have c40 := hb4.cell 0
          have c41 := hb4.cell 1
          simp [entC] at c40 c41
          have q8 : ((L[k].1 : Int) == 0) = false := by rw [beq_eq_false_iff_ne]; omega
          have q8n : (L[k].1 = 0) = False := eq_false (by omega)
          generalize L[k] = en at *
          obtain ⟨es, ew⟩ := en
          dsimp only at c40 c41 q8 q8n hy
          clear hpre htk hpos hle hinc hnx hb4 hb32 hkw2 hjw2 hlt
          gi_wp2_with (refine stopIn_at 44 rfl ?_)
          constructor
          refine wpListIn_agg_wJ (by rfl) 46 (.tmp 4) rfl rfl (cs := entC (es, ew)) agg_entry HB4.out.cellsAt ?_
          gi_wp2
          refine hR.mono ?_
          rintro e W3 (⟨rfl, hJ3, hk3⟩ | ⟨rfl, hJx3, hk3⟩)
          · have hb43 : Blk W3 wr.heap.size 46 (entC (es, ew)).toArray := (hk3.ent _ _ _ HB4.out rfl).trans HB4.out
            have hb33 : Blk W3 W.heap.size 33 #[.int .u32 (last : Int)] := (hk3.u32 _ _ _ HB32.out).trans HB32.out
            have c43 := hb43.cell 0
            have f33 := hb33.frozen 0
            have c33 := hb33.cell 0
            simp [entC] at c43
            simp at c33
            have hj4 := hJ.set (.int .u32 (es : Int)) hJ3 hb33 rfl ⟨by omega, _, _, rfl⟩
            have ks := keep_set W3 W.heap.size 0 (.int .u32 (es : Int))
            have hka4 : KA (w.heap.size + 2) [Bj, gj, g, b1, b2] gj g j0.base W (W3.setCell ⟨W.heap.size, 0, none⟩ (.int .u32 (es : Int))) := by
              have h9 := HKW2.out.trans hk3
              refine ⟨h9.kj.trans (KJ.keep ks (fun x hx => ⟨?_, by have := HLT.out x hx; simp; omega⟩) (by have := HLT.out gj (by simp); simp; omega)), h9.oth.trans (ks.from (fun y hy => .inr (by simp at hy; subst hy; exact ⟨_, _, _, hb33⟩))), fun r cs fr e => ?_, fun r cs fr e h2 => ?_⟩
              · have := h9.kj.same x hx
                have h8 := HLT.out x hx
                have := h9.oth.size
                omega
              · have h8 := (Array.getElem?_eq_some_iff.1 e).1
                have h7 := h9.oth.size
                rw [ks.block r (by omega) (by simp; omega)]
                exact h9.u32 r cs fr e
              · have h8 := (Array.getElem?_eq_some_iff.1 e).1
                have h7 := h9.oth.size
                rw [ks.block r (by omega) (by simp; omega)]
                exact h9.ent r cs fr e h2
            have hb34 := hb33.set_ 0 (.int .u32 (es : Int))
            have HDD : Hid (∀ D ∈ Ds', W.heap.size + 1 ≤ D ∧ (W3.setCell ⟨W.heap.size, 0, none⟩ (.int .u32 (es : Int))).heap[D]? = some (.deferred (some []))) := fun D hD => by
              have h8 := HDS2.out D hD
              have h7 := hk3.oth.same D _ (by omega) h8.2 rfl
              refine ⟨h8.1, ?_⟩
              rw [ks.block D (Array.getElem?_eq_some_iff.1 h7).1 (by simp; omega)]
              exact h7
            have HJ4 := Lib.hid hj4
            have HKA4 := Lib.hid hka4
            have HB34 := Lib.hid hb34
            have hz4 : W.heap.size + 1 ≤ (W3.setCell ⟨W.heap.size, 0, none⟩ (.int .u32 (es : Int))).heap.size := by have := hb34.lt; omega
            have HZ4 := Lib.hid hz4
            clear hk3 hJ3 hb43 hb33 hj4 hka4 hb34 hz4 ks hR
            gi_wp2_with fail
            refine ⟨⟨k + 1, es, Ds', _, _, _, _, _, _, _, _, _, _, _, _, _, _, _, _, _, _, _, _, _, _, _, _, _, _, _, _, _, _, _, _, _, _, _, _, _, _, _, _, _, _, _, _, _, ⟨by omega, .inr ⟨(es, ew), by omega, HNX.out, rfl⟩, HFO.out.2.1, by rw [HTK.out]; exact HJ4.out, HKA4.out, HB34.out, HZ4.out, HND2.out, HDD.out⟩, rfl⟩, ?_⟩
            rw [HCL.out, HB34.out.cell]
            have := HFO.out
            show 1073741825 - (es : Int).toNat < _
            omega
          · have HDS3 : Hid (∀ D ∈ Ds', W.heap.size ≤ D ∧ W3.heap[D]? = some (.deferred (some []))) := fun D hD => by
              have h8 := HDS2.out D hD
              exact ⟨by omega, hk3.oth.same D _ (by omega) h8.2 rfl⟩
            clear hk3 hR
            gi_wp2
            refine leavesM_marksI (B := W.heap.size) (I := fun W' => Jx (L.take k ++ [(es, ew)]) W') (OwnFrom.at_ hJx.own _) Ds' W3 HND2.out HDS3.out hJx3 (fun W' hi => ?_)
            exact ⟨_, results_none rfl _ _ _, ⟨_, rfl⟩, .inr ⟨_, by rw [HLL.out]; exact HPRE.out, hi⟩⟩
        · have hkL : k = L.length := by omega
          rw [List.getElem?_eq_none (by omega), Option.getD_none] at hb4
          have hjl : J L w2 := by
            have h9 := hjw2
            rw [hkL, List.take_length] at h9
            exact h9
          have c40 := hb4.cell 0
          simp [entC] at c40
          have HJL := Lib.hid hjl
          clear hjl hjw2 hb4 hkw2 hb32 hkL
          gi_wp2
          refine ⟨fun f h => (by cases h), ?_⟩
          gi_wp2
          refine leavesM_marksI (B := W.heap.size) (I := fun W' => J L W') (OwnFrom.at_ hJ.own _) Ds' w2 HND2.out (fun D hD => ⟨by have := (HDS2.out D hD).1; omega, (HDS2.out D hD).2⟩) HJL.out (fun W' hi => ?_)
          exact ⟨_, results_none rfl _ _ _, ⟨_, rfl⟩, .inl (by rw [HLL.out]; exact hi)⟩
end Go.Proofs.Yteanpgkonhdbpaa
