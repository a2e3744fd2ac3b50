/- A sector's entries as an iterator; walked. Condition: the device is one that may be. A journal opened; walked. Condition: the device is one that may be. -/
import Derived.Test.YteanpgkonhdbpaaJrSkip
import Derived.Test.YteanpgkonhdbpaaRangeB
namespace Go.Proofs.Yteanpgkonhdbpaa
open Go.RowKit
attribute [local go_sem] Oper.semAt_some

/-- A whole struct or array loaded in a round, under a guard that says yes. -/
theorem wpListIn_agg_wJ {P : Program} {ops : Array Oper} {rest : List Oper} {o : Oper} {a : Act} {Q : Exit → Act → World → Prop} {w : World} {F : Fence} {n' : Nat} (hw : Region.wanted o (yielded ops a.tmps) = true) (ty : TypeId) (x : Operand) (ho : o.op = .load ty x) {b f : Nat} (hx : a.eval x = .pointer (some ⟨b, f, none⟩)) {cs : List Value} (hA : AggOf P ty cs.length) (hc : CellsAt w b f cs)
    (h : wpListIn F n' P ops Q rest (a.put o.dst (.agg cs.toArray)) w) : wpListIn F n' P ops Q (o :: rest) a w := by
  refine wpListIn_step fun K hK => ?_
  rw [if_pos hw]
  unfold Oper.wpIn
  refine ⟨?_, ?_⟩
  · simp [Oper.about, ho]
  · rw [Oper.semAt_plain F _ _ (by rw [ho]; intro c hc'; cases hc')]
    simp only [execOp, ho, hx, Instr.loadAt, Instr.sureAddr, Sem.run_bind, Sem.run_pure, Result.andThen_ok, run_loadVar_agg hA hc]
    exact hK _ _ h
theorem abides0 {β : Type} {B : Nat} {J : β → World → Prop} (h : AbidesFrom B J) {s : β} {W W' : World} (hs : J s W) (k : Keep [] W W') : J s W' :=
  h s W W' none hs ⟨k.os, k.tape, k.output, k.size, fun i hi _ => k.block i hi (by simp)⟩ (fun r e => by cases e)

/-- What an iterator over a journal's places rests on: some blocks as they are; the journal's device and place. -/
structure KJ (C : List Nat) (gj g base : Nat) (W W' : World) : Prop where
  same : Same C W W'
  jr : ∀ j, JrAt W gj g j → j.base = base → ∃ j', JrAt W' gj g j' ∧ j'.base = base
section
variable {C : List Nat} {gj g base : Nat} {A B D : World}
theorem KJ.refl (C : List Nat) (gj g base : Nat) (W : World) : KJ C gj g base W W := ⟨Same.refl _ _, fun j h hb => ⟨j, h, hb⟩⟩
theorem KJ.trans (h : KJ C gj g base A B) (k : KJ C gj g base B D) : KJ C gj g base A D := ⟨h.same.trans k.same, fun j hj hb => by
  obtain ⟨j1, h1, h2⟩ := h.jr j hj hb
  exact k.jr j1 h1 h2⟩
theorem KJ.turn {w : World} (hC : ∀ k, k ∈ C → k < w.heap.size) (W : World) (l : Nat) (o o' : Obj) (hl : w.heap.size ≤ l) (ho : W.heap[l]? = some o) (hc : o.isCells = false) (hw : o.isWalk = false) : KJ C gj g base W (W.putObj l o') :=
  ⟨Same.turn hC W l o o' hl ho hc hw, fun j hj hb => ⟨j, ⟨blk_putObj o' hj.blk ho hc⟩, hb⟩⟩
theorem KJ.keep {F : List Nat} (k : Keep F A B) (hC : ∀ x ∈ C, x < A.heap.size ∧ x ∉ F) (hg : gj ∉ F) : KJ C gj g base A B := ⟨Same.keep k hC, fun j hj hb => ⟨j, hj.keep k hg, hb⟩⟩
end
/-- How an entry and its place are handed on. -/
abbrev encJE (x : Nat × (Nat × Nat)) : Array Value := #[.int .i64 (x.1 : Int), .agg (entC x.2).toArray]
theorem sectE_snoc (W : Wds) (s k : Nat) : sectE W s (k + 1) = sectE W s k ++ (match entJ W s k with | some e => [(k, e)] | none => []) := by
  unfold sectE
  rw [List.range_succ, List.filterMap_append]
  congr 1
  cases h : entJ W s k <;> simp [h]
theorem sectE_prefix (W : Wds) (s : Nat) {i j : Nat} (h : i ≤ j) : sectE W s i <+: sectE W s j := by
  induction j with
  | zero => obtain rfl : i = 0 := by omega
            exact List.prefix_refl _
  | succ j ih =>
    rcases Nat.lt_or_ge i (j + 1) with h1 | h1
    · exact (ih (by omega)).trans (by rw [sectE_snoc]; exact List.prefix_append _ _)
    · obtain rfl : i = j + 1 := by omega
      exact List.prefix_refl _
theorem ents_any (gj s : Nat) (w : World) : Calls Try.prog 62 #[.pointer (some ⟨gj, 0, none⟩), .int .i64 (s : Int)] w fun e w' =>
    e = .returned (.func (.func 95) #[] #[.pointer (some ⟨w.heap.size, 0, none⟩), .pointer (some ⟨w.heap.size + 1, 0, none⟩)]) ∧ (w.alloc (.cells #[.pointer (some ⟨gj, 0, none⟩)] 28)).alloc (.cells #[.int .i64 (s : Int)] 3) = w' := by
  go_enter Try.func62, Try.ntmps62
  go_wp2
  go_ret
  exact ⟨rfl, rfl⟩

set_option maxRecDepth 100000 in
set_option maxHeartbeats 4000000 in
theorem ents1_seq (n : Nat) (gj g b1 b2 : Nat) (d : Dev) (base s Bj Bs : Nat) (w : World) (hj : ∃ j, JrAt w gj g j ∧ j.base = base) (hd : DevAt w g b1 b2 d) (ho : d.Ok) (hs : base + s < d.ns) (hBj : Blk w Bj 28 #[.pointer (some ⟨gj, 0, none⟩)]) (hBs : Blk w Bs 3 #[.int .i64 (s : Int)]) :
    SeqP Fence.wide n Try.prog 95 #[.pointer (some ⟨Bj, 0, none⟩), .pointer (some ⟨Bs, 0, none⟩)] encJE (KJ [Bj, Bs, g, b1, b2] gj g base) (sectE (wdJ d) (base + s) (d.nw / 4)) w := by
  intro l0 J Jx W hW hJ hJx hY h0
  have hk0 : Keep [] w W := keepB hW
  have hst : ∀ W', KJ [Bj, Bs, g, b1, b2] gj g base W W' → (∃ j, JrAt W' gj g j ∧ j.base = base) ∧ DevAt W' g b1 b2 d ∧ Blk W' Bj 28 #[.pointer (some ⟨gj, 0, none⟩)] ∧ Blk W' Bs 3 #[.int .i64 (s : Int)] := fun W' hk => by
    obtain ⟨j, h1, h2⟩ := hj
    obtain ⟨j', h3, h4⟩ := hk.jr j (h1.keep0 hk0) h2
    have hb : ∀ x t cs, x ∈ [Bj, Bs, g, b1, b2] → Blk w x t cs → Blk W' x t cs := fun x t cs hx hb => (hk.same x hx).trans (hb.keep0 hk0)
    exact ⟨⟨j', h3, h4⟩, ⟨hb g _ _ (by simp) hd.dev, hb b1 _ _ (by simp) hd.bits, hb b2 _ _ (by simp) hd.worn⟩, hb Bj _ _ (by simp) hBj, hb Bs _ _ (by simp) hBs⟩
  have HST := Lib.hid hst
  have HO := Lib.hid ho
  have HS := Lib.hid hs
  have hnw := ho.nw2
  have hK : d.nw / 4 ≤ 256 := by omega
  generalize hKK : d.nw / 4 = K at *
  have HKK := Lib.hid hKK
  have h00 := hst W (KJ.refl _ _ _ _ _)
  obtain ⟨⟨j0, hj0, hjb0⟩, hd0, hbj0, hbs0⟩ := h00
  have HSL := Lib.hid (slots_any gj g b1 b2 d j0 W hd0 ho hj0)
  rw [hKK] at HSL
  have cb := hbj0.cell 0
  simp at cb
  clear hst hj hd hBj hBs hW hk0 ho hs hnw hKK hd0 hbj0 hbs0 hj0 hjb0
  refine callsIn_of_wp Try.func95 rfl trivial ?_ rfl
  simp only [Try.ntmps95, List.size_toArray, List.length_cons, List.length_nil, Nat.reduceAdd, Nat.reduceSub, Array.replicate_succ, Array.replicate_zero, List.push_toArray, List.append_toArray, List.nil_append, List.cons_append]
  gi_wp2_with (refine ⟨trivial, fun h => (by cases h), ?_⟩; refine (callsIn_wide.2 HSL.out).mono ?_; rintro e w1 ⟨rfl, rfl⟩)
  clear HSL cb
  gi_loopw [9] (fun vi wr => ∃ k : Nat, k ≤ K ∧ vi = .int .i64 (k : Int) ∧ J (sectE (wdJ d) (base + s) k) wr ∧ KJ [Bj, Bs, g, b1, b2] gj g base W wr ) (fun i _ => K - (intOf i).toNat)
  case atStart => exact ⟨0, Nat.zero_le _, rfl, h0, KJ.refl _ _ _ _ _⟩
  case round =>
    obtain ⟨k, hk, rfl, hJr, hkj⟩ := hrel
    by_cases hlt : k < K
    · have hnow := HST.out wr hkj
      obtain ⟨⟨j1, hj1, hjb1⟩, hd1, hbj1, hbs1⟩ := hnow
      have HSO := Lib.hid (slot_any gj g b1 b2 d j1 s k wr hd1 HO.out hj1 (by rw [hjb1]; exact HS.out) (by rw [HKK.out]; exact hlt))
      rw [hjb1] at HSO
      have cb := hbj1.cell 0
      have cs := hbs1.cell 0
      simp at cb cs
      have hpre := Lib.hid (sectE_prefix (wdJ d) (base + s) (show k + 1 ≤ K by omega))
      have hsn := sectE_snoc (wdJ d) (base + s) k
      have hltr : ∀ x ∈ [Bj, Bs, g, b1, b2], x < wr.heap.size := fun x hx => by
        have h1 := hbj1.lt
        have h2 := hbs1.lt
        have h3 := hd1.dev.lt
        have h4 := hd1.bits.lt
        have h5 := hd1.worn.lt
        simp only [List.mem_cons, List.not_mem_nil, or_false] at hx
        omega
      have HLT := Lib.hid hltr
      clear hj1 hjb1 hd1 hbj1 hbs1 hltr
      gi_wp2_with (refine ⟨trivial, fun h => (by cases h), ?_⟩; refine (callsIn_wide.2 HSO.out).mono ?_; clear HSO; rintro e w5 ⟨⟨b5, o5, c5, rfl, hrd⟩, k5⟩)
      have HRE : Hid (Calls Try.prog 96 #[.slice (some ⟨b5, o5, none⟩) 4 c5] w5 (RetE w5 (entJ (wdJ d) (base + s) k))) := read_any47 _ _ _ _ _ _ w5 hrd (wd_lt HO.out _ _) (wd_lt HO.out _ _) (wd_lt HO.out _ _) (wd_lt HO.out _ _)
      clear hrd
      obtain ⟨r, hr⟩ : ∃ r, entJ (wdJ d) (base + s) k = r := ⟨_, rfl⟩
      rw [hr] at HRE hsn
      clear hr
      cases r with
      | none =>
        rw [List.append_nil] at hsn
        have HSN := Lib.hid hsn
        clear hsn
        gi_wp2_with (first
          | (refine ⟨trivial, fun h => (by cases h), ?_⟩; refine (callsIn_wide.2 HRE.out).mono ?_; clear HRE; rintro e w6 ⟨rfl, k6⟩)
          | (refine stopIn_store 46 (.tmp 5) (.tmp 18) rfl ?_))
        constructor
        refine wpListIn_store_all rfl 46 (.tmp 5) (.tmp 18) rfl rfl rfl (vs := entC (0, 0)) agg_entry.2 (Blk.new _ _ _) (entC_one _) rfl ?_
        intro w7 d7 k7
        have kr : Keep [] wr w7 := (k5.then k6).then (((Keep.refl [] w6).alloc _).trans k7 (fun y hy h => by simp at hy h; omega))
        have hj7 := abides0 hJ hJr kr
        have HJ7 := Lib.hid hj7
        have HKJ7 := Lib.hid (hkj.trans (KJ.keep kr (fun x hx => ⟨HLT.out x hx, by simp⟩) (by simp)))
        clear k5 k6 k7 kr d7 hj7 hJr hkj
        gi_wp2
        refine ⟨fun f h => (by cases h), ?_⟩
        gi_wp2
        go_roundw
        case rel => exact ⟨k + 1, by omega, by go_num, by rw [HSN.out]; exact HJ7.out, HKJ7.out⟩
        case measure => simp [intOf] <;> omega
      | some en =>
        have HSN := Lib.hid hsn
        have hp2 : sectE (wdJ d) (base + s) k ++ [(k, en)] <+: sectE (wdJ d) (base + s) K := by rw [← hsn]; exact hpre.out
        have HP2 := Lib.hid hp2
        clear hsn hp2
        gi_wp2_with (first
          | (refine ⟨trivial, fun h => (by cases h), ?_⟩; refine (callsIn_wide.2 HRE.out).mono ?_; clear HRE; rintro e w6 ⟨rfl, k6⟩)
          | (refine stopIn_store 46 (.tmp 5) (.tmp 18) rfl ?_))
        constructor
        refine wpListIn_store_all rfl 46 (.tmp 5) (.tmp 18) rfl rfl rfl (vs := entC en) agg_entry.2 (Blk.new _ _ _) (entC_one _) rfl ?_
        intro w7 d7 k7
        have kr : Keep [] wr w7 := (k5.then k6).then (((Keep.refl [] w6).alloc _).trans k7 (fun y hy h => by simp at hy h; omega))
        have hj7 := abides0 hJ hJr kr
        have HKJ7 := Lib.hid (hkj.trans (KJ.keep kr (fun x hx => ⟨HLT.out x hx, by simp⟩) (by simp)))
        have HD7 := Lib.hid d7.cellsAt
        obtain ⟨fn, tmps, assign, body, hy, hR⟩ := hY (sectE (wdJ d) (base + s) k) (k, en) w7 hj7 HP2.out
        dsimp only [encJE] at hy
        rw [← HSN.out] at hR
        clear k5 k6 k7 kr d7 hj7 hJr hkj HP2
        gi_wp2_with (refine stopIn_at 24 rfl ?_)
        constructor
        refine wpListIn_agg_wJ (by rfl) 46 (.tmp 5) rfl rfl (cs := entC en) agg_entry HD7.out ?_
        gi_wp2
        refine ⟨fun h => (by cases h), hR.mono ?_⟩
        rintro e W3 (⟨rfl, hJ3, hk3⟩ | ⟨rfl, hJx3⟩)
        · have HK3 := Lib.hid (HKJ7.out.trans hk3)
          clear hk3
          gi_wp2
          go_roundw
          case rel => exact ⟨k + 1, by omega, by go_num, hJ3, HK3.out⟩
          case measure => simp [intOf] <;> omega
        · gi_wp2
          refine bodyPost_ret (results_none rfl _ _ _) rfl ?_
          exact ⟨⟨_, rfl⟩, .inr ⟨_, hpre.out, hJx3⟩⟩
    · obtain rfl : k = K := by omega
      clear hkj
      gi_wp2
      go_end0
      exact ⟨⟨_, rfl⟩, .inl hJr⟩
end Go.Proofs.Yteanpgkonhdbpaa

namespace Go.Proofs.Yteanpgkonhdbpaa
open Go.RowKit
attribute [local go_sem] Oper.semAt_some

/-- A list of ended loops' marks. -/
def marksJ (Ds : List Nat) : List Deferred := Ds.map (fun D => { target := .collected D, args := #[] })
theorem leavesM_marksJ {F : Fence} {n : Nat} {P : Program} {fn : Func} {tmps : Array Value} {R : Ending → World → Prop} : ∀ (Ds : List Nat) (W : World), Ds.Nodup → (∀ D ∈ Ds, W.heap[D]? = some (.deferred (some []))) →
    (∀ W', Keep Ds W W' → LeavesIn F n P fn tmps R [] .returning W') → LeavesInM F n P fn tmps R (marksJ Ds) .returning W
  | [], W, _, _, h => h W (Keep.refl _ _)
  | D :: Ds, W, hn, hd, h => by
    have h1 := hd D (by simp)
    rw [List.nodup_cons] at hn
    refine ⟨by simp, .inl ⟨D, _, rfl, run_takeDeferred h1, leavesM_marksJ Ds _ hn.2 (fun D' hD' => ?_) (fun W' hk => h W' ?_)⟩⟩
    · exact (World.putObj_heap_other (fun e => hn.1 (by subst e; exact hD'))).trans (hd D' (by simp [hD']))
    · exact ((keep_putObj W D _).mono (by simp)).trans hk (fun _ hy _ => List.mem_cons_of_mem _ hy)
section
variable {F : Fence} {n : Nat} {P : Program} {Q : Exit → Act → World → Prop} {a : Act} {w : World}
/-- A region that draws its order, in a walk within a fence: S need not hold behind the operation p. -/
theorem bjJ_end {md : Region.Mode} {ops : Array Oper} {p : Nat} {S : World → Prop} {listed : Array Bool} (hr : Region.ready md ops listed = []) (h : Q .normal a w) (fuel : Nat) : wpAnyP P md ops (noOut (noPanic Q)) p S fuel listed a w := ap_done hr (by simpa [noOut, noPanic] using h) fuel
theorem bjJ_start {id : Nat} {l : List Oper} (p : Nat) (S : World → Prop) (hF : Open F) (hm : P.follows .mixedOrders = true) (hd : noDefer l = true) (hS : S w.drew)
    (h : S w.drew → PanOk (noOut (noPanic Q)) → wpAnyP P .any l.toArray (noOut (noPanic Q)) p S l.toArray.size (Array.replicate l.toArray.size false) a w.drew) : (Code.region id l.toArray true).wpIn F n P Q a w :=
  wpIn_mono (ap_start p S hF hm hd hS h (fun _ _ d _ _ h => by cases d <;> exact h)) noPanic_le
end
/-- The words of a journal's own sectors. -/
def ownW (d : Dev) (base : Nat) : Wds := fun s q => wdJ d (base + s) q
theorem sectE_own (d : Dev) (base s K : Nat) : sectE (wdJ d) (base + s) K = sectE (ownW d base) s K := rfl
theorem skipJ_own (d : Dev) (base s K : Nat) : ∀ f a, skipJ (wdJ d) (base + s) K f a = skipJ (ownW d base) s K f a
  | 0, _ => rfl
  | f + 1, a => by
    rw [skipJ, skipJ, skipJ_own d base s K f (a + 1)]
    rfl
def stJ (base many : Nat) (r : Nat × Nat × Nat) : JS := ⟨base, many, r.2.1, r.2.2, r.1⟩
def openedJ (d : Dev) (base many : Nat) : JS := ⟨base, many, (openJ (ownW d base) many (d.nw / 4)).2.1, (openJ (ownW d base) many (d.nw / 4)).2.2, (openJ (ownW d base) many (d.nw / 4)).1⟩

set_option maxRecDepth 100000 in
set_option maxHeartbeats 4000000 in
theorem open_yes (g b1 b2 base many : Nat) (d : Dev) (w : World) (hd : DevAt w g b1 b2 d) (ho : d.Ok) (hon : d.on = true) (h2 : 2 ≤ many) (hb : base + many ≤ d.ns) (h4 : 4 ≤ d.nw) :
    Calls Try.prog 13 #[.pointer (some ⟨g, 0, none⟩), .int .i64 (base : Int), .int .i64 (many : Int)] w fun e w' => ∃ gj, e = .returned (.tuple #[.pointer (some ⟨gj, 0, none⟩), .int .i64 0]) ∧ w.heap.size ≤ gj ∧ JrAt w' gj g (openedJ d base many) ∧ Keep [] w w' := by
  have hns := ho.ns2
  have hnw2 := ho.nw2
  have q0 : decide ((many : Int) < 2) = false := decide_eq_false (by omega)
  have q1 : decide ((64 : Int) < (many : Int)) = false := decide_eq_false (by omega)
  have q2 : decide ((base : Int) < 0) = false := decide_eq_false (by omega)
  have q3 : decide ((d.ns : Int) - (many : Int) < (base : Int)) = false := decide_eq_false (by omega)
  have q4 : decide ((d.nw : Int) < 4) = false := decide_eq_false (by omega)
  have q5 : IntKind.i64.wrap ((d.ns : Int) - (many : Int)) = (d.ns : Int) - (many : Int) := IntWalk.i64_in _ (by omega)
  have HSE := Lib.hid (fsectors_any g b1 b2 d w hd ho)
  have HWO := Lib.hid (fwords_any g b1 b2 d w hd)
  have HON := Lib.hid (fon_any g b1 b2 d w hd)
  rw [hon] at HON
  have HO := Lib.hid ho
  have HD := Lib.hid hd
  have HB := Lib.hid hb
  have H2 := Lib.hid h2
  have hzm : many ≤ 64 := by omega
  generalize hns0 : d.ns = ns at *
  generalize hnw0 : d.nw = nw at *
  have HKK : Hid (nw / 4 = nw / 4) := rfl
  generalize hKK : nw / 4 = K at *
  replace HKK : Hid (nw / 4 = K) := hKK
  have hKb : K ≤ 256 := by omega
  clear hd ho hon h2 hb h4
  rw [← callsIn_wide (n := 9)]
  refine callsIn_of_wp_marks Try.func13 rfl trivial ?_ rfl
  simp only [Try.ntmps13, List.size_toArray, List.length_cons, List.length_nil, Nat.reduceAdd, Nat.reduceSub, Array.replicate_succ, Array.replicate_zero, List.push_toArray, List.append_toArray, List.nil_append, List.cons_append]
  gi_wp2_with (first
    | (refine ⟨trivial, ?_⟩; refine (callsIn_wide.2 HSE.out).mono ?_; rintro e w1 ⟨rfl, rfl⟩)
    | (refine ⟨trivial, ?_⟩; refine (callsIn_wide.2 HWO.out).mono ?_; rintro e w1 ⟨rfl, rfl⟩)
    | (refine ⟨trivial, ?_⟩; refine (callsIn_wide.2 HON.out).mono ?_; rintro e w1 ⟨rfl, rfl⟩))
  obtain ⟨W0, hW0⟩ : ∃ W0, (w.alloc (.cells #[.pointer (some ⟨g, 0, none⟩), .int .i64 (base : Int), .int .i64 (many : Int), .int .i64 0, .int .i64 0, .int .u32 1] 114)).alloc (.cells #[.pointer (some ⟨w.heap.size, 0, none⟩)] 28) = W0 := ⟨_, rfl⟩
  have KW0 : Keep [] w W0 := by rw [← hW0]; exact ((Keep.refl [] w).alloc _).alloc _
  have hJ0 : JrAt W0 w.heap.size g (stJ base many (1, 0, 0)) := by rw [← hW0]; exact ⟨(Blk.new _ _ _).alloc _⟩
  have hP0 : Blk W0 (w.heap.size + 1) 28 #[.pointer (some ⟨w.heap.size, 0, none⟩)] := by
    have := Blk.new (w.alloc (.cells #[.pointer (some ⟨g, 0, none⟩), .int .i64 (base : Int), .int .i64 (many : Int), .int .i64 0, .int .i64 0, .int .u32 1] 114)) 28 #[.pointer (some ⟨w.heap.size, 0, none⟩)]
    rw [show (w.alloc (.cells #[.pointer (some ⟨g, 0, none⟩), .int .i64 (base : Int), .int .i64 (many : Int), .int .i64 0, .int .i64 0, .int .u32 1] 114)).heap.size = w.heap.size + 1 by simp, hW0] at this
    exact this
  rw [hW0]
  clear hW0
  refine wpIn_loop (fun a' wr => ∃ (s : Nat) (Ds : List Nat) (u9 u10 u11 u49 u50 u51 u52 u53 u54 u55 u56 u57 u58 u59 u60 u61 u62 u63 u64 u65 u66 u67 u68 u69 u70 u71 u72 u73 u74 u75 u76 u77 u78 : Value), (s ≤ many ∧ Ds.Nodup ∧ (∀ D ∈ Ds, w.heap.size + 2 ≤ D ∧ wr.heap[D]? = some (.deferred (some []))) ∧ JrAt wr w.heap.size g (stJ base many (foldJ (ownW d base) K s)) ∧ Blk wr (w.heap.size + 1) 28 #[.pointer (some ⟨w.heap.size, 0, none⟩)] ∧ Keep [] w wr) ∧
    a' = { tmps := #[Value.pointer (some ⟨g, 0, none⟩), Value.int .i64 (base : Int), Value.int .i64 (many : Int), undef, undef, undef, Value.pointer none, Value.int .i64 0, Value.pointer (some ⟨w.heap.size + 1, 0, none⟩), u9, u10, u11, Value.pointer (some ⟨g, 0, none⟩), Value.bool false, Value.bool false, Value.int .i64 (many : Int), Value.bool false, Value.bool false, Value.bool false, Value.int .i64 (many : Int), Value.bool false, Value.bool false, Value.bool false, Value.int .i64 (base : Int), Value.bool false, Value.bool false, Value.bool false, Value.int .i64 (base : Int), Value.pointer (some ⟨g, 0, none⟩), Value.int .i64 (ns : Int), Value.int .i64 (many : Int), Value.int .i64 ((ns : Int) - (many : Int)), Value.bool false, Value.bool false, Value.bool false, Value.pointer (some ⟨g, 0, none⟩), Value.int .i64 (nw : Int), Value.bool false, Value.bool false, Value.pointer (some ⟨g, 0, none⟩), Value.bool true, Value.bool false, Value.pointer (some ⟨g, 0, none⟩), Value.int .i64 (base : Int), Value.int .i64 (many : Int), Value.agg #[Value.pointer (some ⟨g, 0, none⟩), Value.int .i64 (base : Int), Value.int .i64 (many : Int), Value.int .i64 0, Value.int .i64 0, Value.int .u32 1], Value.pointer (some ⟨w.heap.size, 0, none⟩), Value.int .i64 (many : Int), Value.int .i64 (s : Int), u49, u50, u51, u52, u53, u54, u55, u56, u57, u58, u59, u60, u61, u62, u63, u64, u65, u66, u67, u68, u69, u70, u71, u72, u73, u74, u75, u76, u77, u78, undef, undef, undef], defers := marksJ Ds }) (fun a' _ => many - (intOf (a'.tmps.getD 48 undef)).toNat) ?start ?round
  case start => exact ⟨0, [], undef, undef, undef, undef, undef, undef, undef, undef, undef, undef, undef, undef, undef, undef, undef, undef, undef, undef, undef, undef, undef, undef, undef, undef, undef, undef, undef, undef, undef, undef, undef, undef, undef, ⟨Nat.zero_le _, List.nodup_nil, fun D hD => absurd hD (by simp), hJ0, hP0, KW0⟩, rfl⟩
  case round =>
    clear KW0 hJ0 hP0
    rintro a' wr ⟨s, Ds, u9, u10, u11, u49, u50, u51, u52, u53, u54, u55, u56, u57, u58, u59, u60, u61, u62, u63, u64, u65, u66, u67, u68, u69, u70, u71, u72, u73, u74, u75, u76, u77, u78, ⟨hsm, hnd, hds, hJ, hP, hK⟩, rfl⟩
    have cP : (wr.alloc (.cells #[.int .i64 (s : Int)] 3)).cell? ⟨w.heap.size + 1, 0, none⟩ = some (.pointer (some ⟨w.heap.size, 0, none⟩)) := (hP.alloc _).cell 0
    by_cases hlt : s < many
    · have q6 : decide ((s : Int) < (many : Int)) = true := decide_eq_true (by omega)
      have HDS := Lib.hid hds
      have HND := Lib.hid hnd
      gi_wp2_with (refine ⟨trivial, ?_⟩; refine (callsIn_wide.2 (ents_any w.heap.size s _)).mono ?_; rintro e W3 ⟨rfl, hW3⟩)
      have k3 : Keep [] wr W3 := by rw [← hW3]; exact (((Keep.refl [] wr).alloc _).alloc _).alloc _
      have b9 : Blk W3 wr.heap.size 3 #[.int .i64 (s : Int)] := by rw [← hW3]; exact ((Blk.new _ _ _).alloc _).alloc _
      have hz9 : (wr.alloc (.cells #[.int .i64 (s : Int)] 3)).heap.size = wr.heap.size + 1 := by simp
      have bj : Blk W3 (wr.heap.size + 1) 28 #[.pointer (some ⟨w.heap.size, 0, none⟩)] := by
        rw [← hW3, ← hz9]; exact (Blk.new _ _ _).alloc _
      have hz10 : ((wr.alloc (.cells #[.int .i64 (s : Int)] 3)).alloc (.cells #[.pointer (some ⟨w.heap.size, 0, none⟩)] 28)).heap.size = wr.heap.size + 2 := by simp
      have bs : Blk W3 (wr.heap.size + 2) 3 #[.int .i64 (s : Int)] := by
        rw [← hW3, ← hz10]; exact Blk.new _ _ _
      have sz3 : W3.heap.size = wr.heap.size + 3 := by rw [← hW3]; simp
      have hzr := hJ.blk.lt
      have hzp := hP.lt
      have hJ3 := hJ.keep0 k3
      have hP3 := hP.keep0 k3
      have K3 := hK.then k3
      have hD3 := HD.out.keep0 K3
      have hseq := ents1_seq 8 w.heap.size g b1 b2 d base s (wr.heap.size + 1) (wr.heap.size + 2) W3 ⟨_, hJ3, rfl⟩ hD3 HO.out (by have := HB.out; omega) bj bs
      rw [hnw0, HKK.out, sectE_own] at hseq
      have hlts : ∀ x ∈ [wr.heap.size + 1, wr.heap.size + 2, g, b1, b2], x < W3.heap.size := fun x hx => by
        have h3 := hD3.dev.lt
        have h4 := hD3.bits.lt
        have h5 := hD3.worn.lt
        simp only [List.mem_cons, List.not_mem_nil, or_false] at hx
        omega
      have hgne : ∀ x ∈ [wr.heap.size + 1, wr.heap.size + 2, g, b1, b2], x ≠ w.heap.size := fun x hx => by
        have h3 := HD.out.dev.lt
        have h4 := HD.out.bits.lt
        have h5 := HD.out.worn.lt
        simp only [List.mem_cons, List.not_mem_nil, or_false] at hx
        omega
      have HLT := Lib.hid (And.intro hlts hgne)
      have HK3 := Lib.hid K3
      clear hW3 hz9 hz10 hJ hP hK hds hnd cP bj bs hD3 hgne
      refine wpIn_rangeFunc_ownH (F := Fence.wide) (n := 9) (ps := #[54, 55]) rfl (by omega) (gf := 95) (lb := #[.pointer (some ⟨wr.heap.size + 1, 0, none⟩), .pointer (some ⟨wr.heap.size + 2, 0, none⟩)]) rfl trivial (enters_of Try.func95 (by kernel_rfl) rfl)
        hseq.sub KJ.trans (KJ.turn hlts) (Below.refl _ _) (fun _ => rfl)
        (fun pre W => JrAt W w.heap.size g (stJ base many ((outs pre).foldl (seeJ s) (foldJ (ownW d base) K s))) ∧ Keep [w.heap.size] W3 W)
        (fun _ _ _ => False)
        ?hI ?hIx ⟨hJ3, Keep.refl _ _⟩
        (fun m a' W => ∃ g11 : Nat, Blk W g11 46 (entC m.1.2).toArray ∧ a' = { tmps := #[Value.pointer (some ⟨g, 0, none⟩), Value.int .i64 (base : Int), Value.int .i64 (many : Int), undef, undef, undef, Value.pointer none, Value.int .i64 0, Value.pointer (some ⟨w.heap.size + 1, 0, none⟩), Value.pointer (some ⟨wr.heap.size, 0, none⟩), Value.int .i64 (m.1.1 : Int), Value.pointer (some ⟨g11, 0, none⟩), Value.pointer (some ⟨g, 0, none⟩), Value.bool false, Value.bool false, Value.int .i64 (many : Int), Value.bool false, Value.bool false, Value.bool false, Value.int .i64 (many : Int), Value.bool false, Value.bool false, Value.bool false, Value.int .i64 (base : Int), Value.bool false, Value.bool false, Value.bool false, Value.int .i64 (base : Int), Value.pointer (some ⟨g, 0, none⟩), Value.int .i64 (ns : Int), Value.int .i64 (many : Int), Value.int .i64 ((ns : Int) - (many : Int)), Value.bool false, Value.bool false, Value.bool false, Value.pointer (some ⟨g, 0, none⟩), Value.int .i64 (nw : Int), Value.bool false, Value.bool false, Value.pointer (some ⟨g, 0, none⟩), Value.bool true, Value.bool false, Value.pointer (some ⟨g, 0, none⟩), Value.int .i64 (base : Int), Value.int .i64 (many : Int), Value.agg #[Value.pointer (some ⟨g, 0, none⟩), Value.int .i64 (base : Int), Value.int .i64 (many : Int), Value.int .i64 0, Value.int .i64 0, Value.int .u32 1], Value.pointer (some ⟨w.heap.size, 0, none⟩), Value.int .i64 (many : Int), Value.int .i64 (s : Int), Value.bool true, Value.int .i64 (s : Int), Value.pointer (some ⟨w.heap.size, 0, none⟩), Value.int .i64 (s : Int), Value.func (.func 95) #[] #[.pointer (some ⟨wr.heap.size + 1, 0, none⟩), .pointer (some ⟨wr.heap.size + 2, 0, none⟩)], Value.int .i64 (m.1.1 : Int), Value.agg (entC m.1.2).toArray, u56, u57, u58, u59, u60, u61, u62, u63, u64, u65, u66, u67, u68, u69, u70, u71, u72, u73, u74, u75, u76, u77, u78, undef, undef, undef], defers := [] }) ?hAx ?assign ?body ?done ?stop
      case hI =>
        intro pre X Y row hs hg hr
        exact ⟨⟨blk_own (β := Unit) _ _ (fun _ => _) () X Y row hs.1.blk hg hr⟩, keep_own (β := Unit) (Nat.le_refl _) () X Y row hs.2 hg hr⟩
      case hIx => exact fun _ _ _ _ _ hs _ _ => hs
      case hAx =>
        rintro _ m a' X Y row ⟨g11, h1, h2⟩ hg hr
        exact ⟨g11, blk_own (β := Unit) _ _ (fun _ => _) () X Y row h1 hg hr, h2⟩
      case assign =>
        rintro l pre m W K' hi hKK
        gi_wp2_with (refine stopIn_store 46 (.tmp 11) (.tmp 55) rfl ?_)
        constructor
        refine wpListIn_store_all rfl 46 (.tmp 11) (.tmp 55) rfl rfl rfl (vs := entC m.1.2) agg_entry.2 (Blk.new _ _ _) (entC_one _) rfl ?_
        intro W1 d1 k1
        have kr : Keep [] W W1 := ((Keep.refl [] W).alloc _).trans k1 (fun y hy h => by simp at hy h; omega)
        gi_wp2
        exact hKK _ _ (Keep.from0 kr) (KJ.keep kr (fun x hx => ⟨Nat.lt_of_lt_of_le (HLT.out.1 x hx) hi.2.size, by simp⟩) (by simp)) ⟨hi.1.keep0 kr, hi.2.then kr⟩ ⟨_, d1, rfl⟩
      case body =>
        rintro l pre m a' W hl ⟨r, hr⟩ ⟨hjw, hkw⟩ ⟨g11, hb11, rfl⟩ hlt2
        obtain ⟨⟨at_, seq, wd⟩, hm⟩ := m
        dsimp only at hb11 ⊢
        have hseqb : 1 ≤ seq ∧ seq ≤ 1073741824 ∧ at_ < K := by
          obtain ⟨h1, h2⟩ := mem_sectE.1 hm
          obtain ⟨h3, h4, _⟩ := ent4_pos h2
          exact ⟨h3, h4, h1⟩
        have hst : (outs (pre ++ [⟨(at_, seq, wd), hm⟩])).foldl (seeJ s) (foldJ (ownW d base) K s) = seeJ s ((outs pre).foldl (seeJ s) (foldJ (ownW d base) K s)) (at_, seq, wd) := by rw [outs_snoc, List.foldl_append]; rfl
        have HST := Lib.hid hst
        generalize (outs pre).foldl (seeJ s) (foldJ (ownW d base) K s) = r0 at *
        have hF : ∀ W', Keep [] W W' → W'.cell? ⟨g11, 0, none⟩ = some (.int .u32 (seq : Int)) ∧ W'.cell? ⟨w.heap.size + 1, 0, none⟩ = some (.pointer (some ⟨w.heap.size, 0, none⟩)) ∧ W'.cell? ⟨w.heap.size, 5, none⟩ = some (.int .u32 (r0.1 : Int)) := fun W' hk => ⟨(hb11.keep0 hk).cell 0, ((hP3.keep hkw (by simp)).keep0 hk).cell 0, (hjw.keep0 hk).cells.2.2.2.2.2⟩
        have HJW := Lib.hid hjw
        have HKW := Lib.hid hkw
        have HB11 := Lib.hid hb11
        have HR := Lib.hid hr
        have hb9 := b9.keep hkw (by simp; omega)
        have HB9 := Lib.hid hb9
        have HPW := Lib.hid (hP3.keep hkw (by simp))
        clear hst hjw hkw hb11 hr hb9 hlts
        clear HON HSE HWO q0 q1 q2 q3 q4 q5
        gi_wp2
        refine bjJ_start 6 (Keep [] W) (open_round _) rfl rfl (Keep.refl _ _).drew (fun hS hPan => ?_)
        (refine ap_val (v := ?_) 0 rfl (by kernel_rfl) (by kernel_rfl) (by kernel_rfl) (by kernel_rfl) (by rfl) hPan ?_ hS ?_; rotate_left; (intro w' hSw; go_simp; try with_reducible rfl); simp only [Act.put, List.setIfInBounds_toArray, List.set_cons_zero, List.set_cons_succ])
        (refine ap_val (v := ?_) 1 rfl (by kernel_rfl) (by kernel_rfl) (by kernel_rfl) (by kernel_rfl) (by rfl) hPan ?_ hS ?_; rotate_left; (intro w' hSw; obtain ⟨f1,f2,f3⟩ := hF w' hSw; go_simp; try with_reducible rfl); simp only [Act.put, List.setIfInBounds_toArray, List.set_cons_zero, List.set_cons_succ])
        (refine ap_val (v := ?_) 2 rfl (by kernel_rfl) (by kernel_rfl) (by kernel_rfl) (by kernel_rfl) (by rfl) hPan ?_ hS ?_; rotate_left; (intro w' hSw; obtain ⟨f1,f2,f3⟩ := hF w' hSw; go_simp; try with_reducible rfl); simp only [Act.put, List.setIfInBounds_toArray, List.set_cons_zero, List.set_cons_succ])
        (refine ap_val (v := ?_) 3 rfl (by kernel_rfl) (by kernel_rfl) (by kernel_rfl) (by kernel_rfl) (by rfl) hPan ?_ hS ?_; rotate_left; (intro w' hSw; go_simp; try with_reducible rfl); simp only [Act.put, List.setIfInBounds_toArray, List.set_cons_zero, List.set_cons_succ])
        (refine ap_val (v := ?_) 4 rfl (by kernel_rfl) (by kernel_rfl) (by kernel_rfl) (by kernel_rfl) (by rfl) hPan ?_ hS ?_; rotate_left; (intro w' hSw; go_simp; try with_reducible rfl); simp only [Act.put, List.setIfInBounds_toArray, List.set_cons_zero, List.set_cons_succ])
        (refine ap_val (v := ?_) 5 rfl (by kernel_rfl) (by kernel_rfl) (by kernel_rfl) (by kernel_rfl) (by rfl) hPan ?_ hS ?_; rotate_left; (intro w' hSw; obtain ⟨f1,f2,f3⟩ := hF w' hSw; go_simp; try with_reducible rfl); simp only [Act.put, List.setIfInBounds_toArray, List.set_cons_zero, List.set_cons_succ])
        refine ap_one 6 (by kernel_rfl) ?_
        refine op_run (v := .bool (decide ((r0.1 : Int) ≤ (seq : Int)))) (w' := W.drew) 6 rfl (by rfl) (by go_simp) ?_
        refine ⟨fun _ => hS, bjJ_end (by kernel_rfl) ?_ _⟩
        (simp only [Act.put, List.setIfInBounds_toArray, List.set_cons_zero, List.set_cons_succ])
        have hS1 := hS
        generalize W.drew = W1 at *
        by_cases hge : r0.1 ≤ seq
        · have q7 : decide ((r0.1 : Int) ≤ (seq : Int)) = true := decide_eq_true (by omega)
          have HSE : Hid (seeJ s r0 (at_, seq, wd) = (seq + 1, s, at_ + 1)) := if_pos hge
          have hne11 : g11 ≠ w.heap.size := HB11.out.ne_ HJW.out.blk (by decide)
          have hw5 : IntKind.u32.wrap ((seq : Int) + 1) = (seq : Int) + 1 := by show ((seq : Int) + 1) % 4294967296 = _; omega
          have hw6 : IntKind.i64.wrap ((at_ : Int) + 1) = (at_ : Int) + 1 := IntWalk.i64_in _ (by omega)
          have hF2 : ∀ W', Keep [w.heap.size] W1 W' → W'.cell? ⟨w.heap.size + 1, 0, none⟩ = some (.pointer (some ⟨w.heap.size, 0, none⟩)) ∧ W'.cell? ⟨g11, 0, none⟩ = some (.int .u32 (seq : Int)) ∧ W'.cell? ⟨wr.heap.size, 0, none⟩ = some (.int .i64 (s : Int)) := fun W' hk => ⟨((HPW.out.keep0 hS1).keep hk (by simp)).cell 0, ((HB11.out.keep0 hS1).keep hk (by simp; exact hne11)).cell 0, ((HB9.out.keep0 hS1).keep hk (by simp; omega)).cell 0⟩
          have hj2 : JrAt W1.drew w.heap.size g (stJ base many r0) := (HJW.out.keep0 hS1).keep0 (Keep.refl [] W1).drew
          have HS1 := Lib.hid hS1
          clear hF hS1 hPan hS
          gi_wp2
          refine bjJ_start 17 (Keep [w.heap.size] W1) (open_round _) rfl rfl (Keep.refl _ _).drew (fun hS hPan => ?_)
          (refine ap_val (v := ?_) 0 rfl (by kernel_rfl) (by kernel_rfl) (by kernel_rfl) (by kernel_rfl) (by rfl) hPan ?_ hS ?_; rotate_left; (intro w' hSw; obtain ⟨f1,f2,f3⟩ := hF2 w' hSw; go_simp; try with_reducible rfl); simp only [Act.put, List.setIfInBounds_toArray, List.set_cons_zero, List.set_cons_succ])
          (refine ap_val (v := ?_) 1 rfl (by kernel_rfl) (by kernel_rfl) (by kernel_rfl) (by kernel_rfl) (by rfl) hPan ?_ hS ?_; rotate_left; (intro w' hSw; obtain ⟨f1,f2,f3⟩ := hF2 w' hSw; go_simp; try with_reducible rfl); simp only [Act.put, List.setIfInBounds_toArray, List.set_cons_zero, List.set_cons_succ])
          (refine ap_val (v := ?_) 2 rfl (by kernel_rfl) (by kernel_rfl) (by kernel_rfl) (by kernel_rfl) (by rfl) hPan ?_ hS ?_; rotate_left; (intro w' hSw; obtain ⟨f1,f2,f3⟩ := hF2 w' hSw; go_simp; try with_reducible rfl); simp only [Act.put, List.setIfInBounds_toArray, List.set_cons_zero, List.set_cons_succ])
          (refine ap_val (v := ?_) 3 rfl (by kernel_rfl) (by kernel_rfl) (by kernel_rfl) (by kernel_rfl) (by rfl) hPan ?_ hS ?_; rotate_left; (intro w' hSw; go_simp; try with_reducible rfl); simp only [Act.put, List.setIfInBounds_toArray, List.set_cons_zero, List.set_cons_succ])
          (refine ap_val (v := ?_) 4 rfl (by kernel_rfl) (by kernel_rfl) (by kernel_rfl) (by kernel_rfl) (by rfl) hPan ?_ hS ?_; rotate_left; (intro w' hSw; obtain ⟨f1,f2,f3⟩ := hF2 w' hSw; go_simp; try with_reducible rfl); simp only [Act.put, List.setIfInBounds_toArray, List.set_cons_zero, List.set_cons_succ])
          (refine ap_val (v := ?_) 5 rfl (by kernel_rfl) (by kernel_rfl) (by kernel_rfl) (by kernel_rfl) (by rfl) hPan ?_ hS ?_; rotate_left; (intro w' hSw; go_simp; try with_reducible rfl); simp only [Act.put, List.setIfInBounds_toArray, List.set_cons_zero, List.set_cons_succ])
          (refine ap_val (v := ?_) 6 rfl (by kernel_rfl) (by kernel_rfl) (by kernel_rfl) (by kernel_rfl) (by rfl) hPan ?_ hS ?_; rotate_left; (intro w' hSw; obtain ⟨f1,f2,f3⟩ := hF2 w' hSw; go_simp; try with_reducible rfl); simp only [Act.put, List.setIfInBounds_toArray, List.set_cons_zero, List.set_cons_succ])
          (refine ap_val (v := ?_) 7 rfl (by kernel_rfl) (by kernel_rfl) (by kernel_rfl) (by kernel_rfl) (by rfl) hPan ?_ hS ?_; rotate_left; (intro w' hSw; go_simp; try with_reducible rfl); simp only [Act.put, List.setIfInBounds_toArray, List.set_cons_zero, List.set_cons_succ])
          (refine ap_val (v := ?_) 8 rfl (by kernel_rfl) (by kernel_rfl) (by kernel_rfl) (by kernel_rfl) (by rfl) hPan ?_ hS ?_; rotate_left; (intro w' hSw; go_simp; try with_reducible rfl); simp only [Act.put, List.setIfInBounds_toArray, List.set_cons_zero, List.set_cons_succ])
          (refine ap_val (v := ?_) 9 rfl (by kernel_rfl) (by kernel_rfl) (by kernel_rfl) (by kernel_rfl) (by rfl) hPan ?_ hS ?_; rotate_left; (intro w' hSw; go_simp; try with_reducible rfl); simp only [Act.put, List.setIfInBounds_toArray, List.set_cons_zero, List.set_cons_succ])
          (refine ap_val (v := ?_) 10 rfl (by kernel_rfl) (by kernel_rfl) (by kernel_rfl) (by kernel_rfl) (by rfl) hPan ?_ hS ?_; rotate_left; (intro w' hSw; go_simp; try with_reducible rfl); simp only [Act.put, List.setIfInBounds_toArray, List.set_cons_zero, List.set_cons_succ])
          generalize W1.drew = W2 at *
          refine ap_one 11 (by kernel_rfl) ?_
          refine op_store1 (v := .int .u32 ((seq : Int) + 1)) 11 rfl (by rfl) rfl rfl rfl (by kernel_rfl) rfl rfl (hj2.blk.cell 5) (hj2.blk.frozen 5) ?_
          have hb3 := hj2.blk.set_ 5 (.int .u32 ((seq : Int) + 1))
          have hS3 := hS.trans (keep_set W2 w.heap.size 5 (.int .u32 ((seq : Int) + 1))) (fun y hy _ => hy)
          refine ⟨fun _ => hS3, ?_⟩
          (simp only [Act.put])
          clear hj2 hS
          generalize W2.setCell ⟨w.heap.size, 5, none⟩ (.int .u32 ((seq : Int) + 1)) = W4 at *
          have hS := hS3
          (refine ap_val (v := ?_) 12 rfl (by kernel_rfl) (by kernel_rfl) (by kernel_rfl) (by kernel_rfl) (by rfl) hPan ?_ hS ?_; rotate_left; (intro w' hSw; go_simp; try with_reducible rfl); simp only [Act.put, List.setIfInBounds_toArray, List.set_cons_zero, List.set_cons_succ])
          (refine ap_val (v := ?_) 13 rfl (by kernel_rfl) (by kernel_rfl) (by kernel_rfl) (by kernel_rfl) (by rfl) hPan ?_ hS ?_; rotate_left; (intro w' hSw; go_simp; try with_reducible rfl); simp only [Act.put, List.setIfInBounds_toArray, List.set_cons_zero, List.set_cons_succ])
          refine ap_one 14 (by kernel_rfl) ?_
          refine op_store1 (v := .int .i64 (s : Int)) 14 rfl (by rfl) rfl rfl rfl (by kernel_rfl) rfl rfl (hb3.cell 3) (hb3.frozen 3) ?_
          have hb4 := hb3.set_ 3 (.int .i64 (s : Int))
          have hS4 := hS3.trans (keep_set W4 w.heap.size 3 (.int .i64 (s : Int))) (fun y hy _ => hy)
          refine ⟨fun _ => hS4, ?_⟩
          (simp only [Act.put])
          clear hb3 hS hS3
          generalize W4.setCell ⟨w.heap.size, 3, none⟩ (.int .i64 (s : Int)) = W5 at *
          have hS := hS4
          (refine ap_val (v := ?_) 15 rfl (by kernel_rfl) (by kernel_rfl) (by kernel_rfl) (by kernel_rfl) (by rfl) hPan ?_ hS ?_; rotate_left; (intro w' hSw; go_simp; try with_reducible rfl); simp only [Act.put, List.setIfInBounds_toArray, List.set_cons_zero, List.set_cons_succ])
          (refine ap_val (v := ?_) 16 rfl (by kernel_rfl) (by kernel_rfl) (by kernel_rfl) (by kernel_rfl) (by rfl) hPan ?_ hS ?_; rotate_left; (intro w' hSw; go_simp; try with_reducible rfl); simp only [Act.put, List.setIfInBounds_toArray, List.set_cons_zero, List.set_cons_succ])
          refine ap_one 17 (by kernel_rfl) ?_
          refine op_store1 (v := .int .i64 ((at_ : Int) + 1)) 17 rfl (by rfl) rfl rfl rfl (by kernel_rfl) rfl rfl (hb4.cell 4) (hb4.frozen 4) ?_
          have hb5 := hb4.set_ 4 (.int .i64 ((at_ : Int) + 1))
          have hS5 := hS4.trans (keep_set W5 w.heap.size 4 (.int .i64 ((at_ : Int) + 1))) (fun y hy _ => hy)
          refine ⟨fun h => (by cases h), bjJ_end (by kernel_rfl) ?_ _⟩
          (simp only [Act.put])
          clear hb4 hS hS4 hPan
          generalize W5.setCell ⟨w.heap.size, 4, none⟩ (.int .i64 ((at_ : Int) + 1)) = W6 at *
          have kk : Keep [w.heap.size] W W6 := (HS1.out.mono (by simp)).trans hS5 (fun y hy _ => hy)
          have hj6 : JrAt W6 w.heap.size g (stJ base many (seq + 1, s, at_ + 1)) := ⟨hb5⟩
          have hkj : KJ [wr.heap.size + 1, wr.heap.size + 2, g, b1, b2] w.heap.size g base W W6 := ⟨Same.keep kk (fun x hx => ⟨Nat.lt_of_lt_of_le (HLT.out.1 x hx) HKW.out.size, by simp; exact HLT.out.2 x hx⟩), fun j hj hb => ⟨_, hj6, rfl⟩⟩
          have HKJ := Lib.hid hkj
          have HJ6 := Lib.hid hj6
          have HKK6 := Lib.hid kk
          clear kk hj6 hkj hb5 hS5
          gi_wp2
          refine ⟨HKK6.out.from (fun y hy => .inl (by simp at hy; omega)), HKJ.out, ?_, HKW.out.trans HKK6.out (fun y hy _ => hy)⟩
          rw [HST.out, HSE.out]
          exact HJ6.out
        · have q7 : decide ((r0.1 : Int) ≤ (seq : Int)) = false := decide_eq_false (by omega)
          have HSE : Hid (seeJ s r0 (at_, seq, wd) = r0) := if_neg hge
          have HK1 : Hid (Keep [] W W1) := hS1
          clear hF hPan hS hS1
          gi_wp2
          refine ⟨Keep.from0 HK1.out, KJ.keep HK1.out (fun x hx => ⟨Nat.lt_of_lt_of_le (HLT.out.1 x hx) HKW.out.size, by simp⟩) (by simp), ?_, HKW.out.then HK1.out⟩
          rw [HST.out, HSE.out]
          exact HJW.out.keep0 HK1.out
      case done =>
        rintro D ys W hD hys ⟨hj, hkw⟩ hD2
        rw [hys] at hj
        have hfold : JrAt W w.heap.size g (stJ base many (foldJ (ownW d base) K (s + 1))) := hj
        have HFO := Lib.hid hfold
        have HPW := Lib.hid (hP3.keep hkw (by simp))
        have HKW := Lib.hid (HK3.out.trans hkw (fun y hy hlt => by simp at hy; omega))
        have HDD : Hid ((D :: Ds).Nodup ∧ ∀ D' ∈ D :: Ds, w.heap.size + 2 ≤ D' ∧ W.heap[D']? = some (.deferred (some []))) := by
          have hlt' : ∀ D' ∈ Ds, D' < wr.heap.size := fun D' hD' => (Array.getElem?_eq_some_iff.1 (HDS.out D' hD').2).1
          refine ⟨List.nodup_cons.2 ⟨fun h => by have := hlt' D h; omega, HND.out⟩, fun D' hD' => ?_⟩
          rcases List.mem_cons.1 hD' with rfl | h
          · exact ⟨by omega, hD2⟩
          · have h1 := hlt' D' h
            have h2 := (HDS.out D' h).1
            refine ⟨h2, ?_⟩
            rw [hkw.block D' (by omega) (by simp; omega), k3.block D' h1 (by simp)]
            exact (HDS.out D' h).2
        clear hj hfold hkw hD2 hys
        gi_wp2_with fail
        refine ⟨⟨s + 1, D :: Ds, _, _, _, _, _, _, _, _, _, _, _, _, _, _, _, _, _, _, _, _, _, _, _, _, _, _, _, _, _, _, _, _, _, ⟨by omega, HDD.out.1, HDD.out.2, HFO.out, HPW.out, HKW.out⟩, rfl⟩, ?_⟩
        show many - ((s : Int) + 1).toNat < many - (s : Int).toNat
        omega
      case stop =>
        rintro D c pre W _ hpre hF _
        exact hF.elim
    · have q6 : decide ((s : Int) < (many : Int)) = false := decide_eq_false (by omega)
      have hse : s = many := by omega
      subst hse
      have hfa := found_at (W := ownW d base) (K := K) H2.out
      have HSK := Lib.hid (skip_any w.heap.size g b1 b2 d (stJ base s (foldJ (ownW d base) K s)) wr (HD.out.keep0 hK) HO.out hJ (by have h1 := hfa.1; have h2 := HB.out; show base + (foldJ (ownW d base) K s).2.1 < d.ns; omega) (by rw [hnw0, HKK.out]; exact hfa.2))
      rw [hnw0, HKK.out, skipJ_own] at HSK
      have HJE : Hid (({ stJ base s (foldJ (ownW d base) K s) with at_ := skipJ (ownW d base) (stJ base s (foldJ (ownW d base) K s)).sector K K (stJ base s (foldJ (ownW d base) K s)).at_ } : JS) = openedJ d base s) := by
        show _ = _
        unfold openedJ
        rw [hnw0, HKK.out]
        rfl
      have HK := Lib.hid hK
      have HDS := Lib.hid hds
      have HND := Lib.hid hnd
      have hcell : ∀ W, Keep [w.heap.size] wr W → W.cell? ⟨w.heap.size + 1, 0, none⟩ = some (.pointer (some ⟨w.heap.size, 0, none⟩)) := fun W hk => (hP.keep hk (by simp)).cell 0
      have cP0 := hcell wr (Keep.refl _ _)
      have HPT := Lib.hid hP.lt
      clear hJ hP hK hds hnd cP
      gi_wp2_with (refine ⟨trivial, ?_⟩; refine (callsIn_wide.2 HSK.out).mono ?_; clear HSK; rintro e w5 ⟨rfl, hj5, k5⟩; have c5 := hcell w5 k5)
      replace hj5 : JrAt w5 w.heap.size g (openedJ d base s) := by rw [← HJE.out]; exact hj5
      refine leavesM_marksJ Ds w5 HND.out (fun D hD => ?_) (fun W' hk => ?_)
      · have h1 := HDS.out D hD
        rw [k5.block D (Array.getElem?_eq_some_iff.1 h1.2).1 (by simp; omega)]
        exact h1.2
      · have kW : Keep [] w W' := (HK.out.trans k5 (fun y hy hlt => by simp at hy; omega)).trans hk (fun y hy hlt => by have := (HDS.out y hy).1; omega)
        refine ⟨_, by simp [results, Try.results13, go_sem], w.heap.size, rfl, Nat.le_refl _, hj5.keep hk (fun hm => by have := (HDS.out _ hm).1; omega), kW⟩
end Go.Proofs.Yteanpgkonhdbpaa
