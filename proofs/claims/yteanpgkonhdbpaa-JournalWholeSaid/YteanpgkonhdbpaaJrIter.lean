/- A sector's entries as an iterator; walked. Condition: the device is one that may be. -/
import Derived.Test.YteanpgkonhdbpaaJrSkip
import Derived.Test.YteanpgkonhdbpaaRangeB
namespace Go.Proofs.Yteanpgkonhdbpaa
open Go.RowKit
attribute [local go_sem] Oper.semAt_some

/-- A whole struct or array loaded in a round, under a guard that says yes. -/
theorem wpListIn_agg_wJ {P : Program} {ops : Array Oper} {rest : List Oper} {o : Oper} {a : Act} {Q : Exit → Act → World → Prop} {w : World} {F : Fence} {n' : Nat} (hw : Region.wanted o (yielded ops a.tmps) = true) (ty : TypeId) (x : Operand) (ho : o.op = .load ty x) {b f : Nat} (hx : a.eval x = .pointer (some ⟨b, f, none⟩)) {cs : List Value} (hA : AggOf P ty cs.length) (hc : CellsAt w b f cs)
    (h : wpListIn F n' P ops Q rest (a.put o.dst (.agg cs.toArray)) w) : wpListIn F n' P ops Q (o :: rest) a w := by
  refine wpListIn_step fun K hK => ?_
  rw [if_pos hw]
  unfold Oper.wpIn
  refine ⟨?_, ?_⟩
  · simp [Oper.about, ho]
  · rw [Oper.semAt_plain F _ _ (by rw [ho]; intro c hc'; cases hc')]
    simp only [execOp, ho, hx, Instr.loadAt, Instr.sureAddr, Sem.run_bind, Sem.run_pure, Result.andThen_ok, run_loadVar_agg hA hc]
    exact hK _ _ h
theorem abides0 {β : Type} {B : Nat} {J : β → World → Prop} (h : AbidesFrom B J) {s : β} {W W' : World} (hs : J s W) (k : Keep [] W W') : J s W' :=
  h s W W' none hs ⟨k.os, k.tape, k.output, k.size, fun i hi _ => k.block i hi (by simp)⟩ (fun r e => by cases e)

/-- What an iterator over a journal's places rests on: some blocks as they are; the journal's device and place. -/
structure KJ (C : List Nat) (gj g base : Nat) (W W' : World) : Prop where
  same : Same C W W'
  jr : ∀ j, JrAt W gj g j → j.base = base → ∃ j', JrAt W' gj g j' ∧ j'.base = base
section
variable {C : List Nat} {gj g base : Nat} {A B D : World}
theorem KJ.refl (C : List Nat) (gj g base : Nat) (W : World) : KJ C gj g base W W := ⟨Same.refl _ _, fun j h hb => ⟨j, h, hb⟩⟩
theorem KJ.trans (h : KJ C gj g base A B) (k : KJ C gj g base B D) : KJ C gj g base A D := ⟨h.same.trans k.same, fun j hj hb => by
  obtain ⟨j1, h1, h2⟩ := h.jr j hj hb
  exact k.jr j1 h1 h2⟩
theorem KJ.turn {w : World} (hC : ∀ k, k ∈ C → k < w.heap.size) (W : World) (l : Nat) (o o' : Obj) (hl : w.heap.size ≤ l) (ho : W.heap[l]? = some o) (hc : o.isCells = false) (hw : o.isWalk = false) : KJ C gj g base W (W.putObj l o') :=
  ⟨Same.turn hC W l o o' hl ho hc hw, fun j hj hb => ⟨j, ⟨blk_putObj o' hj.blk ho hc⟩, hb⟩⟩
theorem KJ.keep {F : List Nat} (k : Keep F A B) (hC : ∀ x ∈ C, x < A.heap.size ∧ x ∉ F) (hg : gj ∉ F) : KJ C gj g base A B := ⟨Same.keep k hC, fun j hj hb => ⟨j, hj.keep k hg, hb⟩⟩
end
/-- How an entry and its place are handed on. -/
abbrev encJE (x : Nat × (Nat × Nat)) : Array Value := #[.int .i64 (x.1 : Int), .agg (entC x.2).toArray]
theorem sectE_snoc (W : Wds) (s k : Nat) : sectE W s (k + 1) = sectE W s k ++ (match entJ W s k with | some e => [(k, e)] | none => []) := by
  unfold sectE
  rw [List.range_succ, List.filterMap_append]
  congr 1
  cases h : entJ W s k <;> simp [h]
theorem sectE_prefix (W : Wds) (s : Nat) {i j : Nat} (h : i ≤ j) : sectE W s i <+: sectE W s j := by
  induction j with
  | zero => obtain rfl : i = 0 := by omega
            exact List.prefix_refl _
  | succ j ih =>
    rcases Nat.lt_or_ge i (j + 1) with h1 | h1
    · exact (ih (by omega)).trans (by rw [sectE_snoc]; exact List.prefix_append _ _)
    · obtain rfl : i = j + 1 := by omega
      exact List.prefix_refl _
theorem ents_any (gj s : Nat) (w : World) : Calls Try.prog 62 #[.pointer (some ⟨gj, 0, none⟩), .int .i64 (s : Int)] w fun e w' =>
    e = .returned (.func (.func 95) #[] #[.pointer (some ⟨w.heap.size, 0, none⟩), .pointer (some ⟨w.heap.size + 1, 0, none⟩)]) ∧ (w.alloc (.cells #[.pointer (some ⟨gj, 0, none⟩)] 28)).alloc (.cells #[.int .i64 (s : Int)] 3) = w' := by
  go_enter Try.func62, Try.ntmps62
  go_wp2
  go_ret
  exact ⟨rfl, rfl⟩

set_option maxRecDepth 100000 in
set_option maxHeartbeats 4000000 in
theorem ents1_seq (n : Nat) (gj g b1 b2 : Nat) (d : Dev) (base s Bj Bs : Nat) (w : World) (hj : ∃ j, JrAt w gj g j ∧ j.base = base) (hd : DevAt w g b1 b2 d) (ho : d.Ok) (hs : base + s < d.ns) (hBj : Blk w Bj 28 #[.pointer (some ⟨gj, 0, none⟩)]) (hBs : Blk w Bs 3 #[.int .i64 (s : Int)]) :
    SeqP Fence.wide n Try.prog 95 #[.pointer (some ⟨Bj, 0, none⟩), .pointer (some ⟨Bs, 0, none⟩)] encJE (KJ [Bj, Bs, g, b1, b2] gj g base) (sectE (wdJ d) (base + s) (d.nw / 4)) w := by
  intro l0 J Jx W hW hJ hJx hY h0
  have hk0 : Keep [] w W := keepB hW
  have hst : ∀ W', KJ [Bj, Bs, g, b1, b2] gj g base W W' → (∃ j, JrAt W' gj g j ∧ j.base = base) ∧ DevAt W' g b1 b2 d ∧ Blk W' Bj 28 #[.pointer (some ⟨gj, 0, none⟩)] ∧ Blk W' Bs 3 #[.int .i64 (s : Int)] := fun W' hk => by
    obtain ⟨j, h1, h2⟩ := hj
    obtain ⟨j', h3, h4⟩ := hk.jr j (h1.keep0 hk0) h2
    have hb : ∀ x t cs, x ∈ [Bj, Bs, g, b1, b2] → Blk w x t cs → Blk W' x t cs := fun x t cs hx hb => (hk.same x hx).trans (hb.keep0 hk0)
    exact ⟨⟨j', h3, h4⟩, ⟨hb g _ _ (by simp) hd.dev, hb b1 _ _ (by simp) hd.bits, hb b2 _ _ (by simp) hd.worn⟩, hb Bj _ _ (by simp) hBj, hb Bs _ _ (by simp) hBs⟩
  have HST := Lib.hid hst
  have HO := Lib.hid ho
  have HS := Lib.hid hs
  have hnw := ho.nw2
  have hK : d.nw / 4 ≤ 256 := by omega
  generalize hKK : d.nw / 4 = K at *
  have HKK := Lib.hid hKK
  have h00 := hst W (KJ.refl _ _ _ _ _)
  obtain ⟨⟨j0, hj0, hjb0⟩, hd0, hbj0, hbs0⟩ := h00
  have HSL := Lib.hid (slots_any gj g b1 b2 d j0 W hd0 ho hj0)
  rw [hKK] at HSL
  have cb := hbj0.cell 0
  simp at cb
  clear hst hj hd hBj hBs hW hk0 ho hs hnw hKK hd0 hbj0 hbs0 hj0 hjb0
  refine callsIn_of_wp Try.func95 rfl trivial ?_ rfl
  simp only [Try.ntmps95, List.size_toArray, List.length_cons, List.length_nil, Nat.reduceAdd, Nat.reduceSub, Array.replicate_succ, Array.replicate_zero, List.push_toArray, List.append_toArray, List.nil_append, List.cons_append]
  gi_wp2_with (refine ⟨trivial, fun h => (by cases h), ?_⟩; refine (callsIn_wide.2 HSL.out).mono ?_; rintro e w1 ⟨rfl, rfl⟩)
  clear HSL cb
  gi_loopw [9] (fun vi wr => ∃ k : Nat, k ≤ K ∧ vi = .int .i64 (k : Int) ∧ J (sectE (wdJ d) (base + s) k) wr ∧ KJ [Bj, Bs, g, b1, b2] gj g base W wr ) (fun i _ => K - (intOf i).toNat)
  case atStart => exact ⟨0, Nat.zero_le _, rfl, h0, KJ.refl _ _ _ _ _⟩
  case round =>
    obtain ⟨k, hk, rfl, hJr, hkj⟩ := hrel
    by_cases hlt : k < K
    · have hnow := HST.out wr hkj
      obtain ⟨⟨j1, hj1, hjb1⟩, hd1, hbj1, hbs1⟩ := hnow
      have HSO := Lib.hid (slot_any gj g b1 b2 d j1 s k wr hd1 HO.out hj1 (by rw [hjb1]; exact HS.out) (by rw [HKK.out]; exact hlt))
      rw [hjb1] at HSO
      have cb := hbj1.cell 0
      have cs := hbs1.cell 0
      simp at cb cs
      have hpre := Lib.hid (sectE_prefix (wdJ d) (base + s) (show k + 1 ≤ K by omega))
      have hsn := sectE_snoc (wdJ d) (base + s) k
      have hltr : ∀ x ∈ [Bj, Bs, g, b1, b2], x < wr.heap.size := fun x hx => by
        have h1 := hbj1.lt
        have h2 := hbs1.lt
        have h3 := hd1.dev.lt
        have h4 := hd1.bits.lt
        have h5 := hd1.worn.lt
        simp only [List.mem_cons, List.not_mem_nil, or_false] at hx
        omega
      have HLT := Lib.hid hltr
      clear hj1 hjb1 hd1 hbj1 hbs1 hltr
      gi_wp2_with (refine ⟨trivial, fun h => (by cases h), ?_⟩; refine (callsIn_wide.2 HSO.out).mono ?_; clear HSO; rintro e w5 ⟨⟨b5, o5, c5, rfl, hrd⟩, k5⟩)
      have HRE : Hid (Calls Try.prog 96 #[.slice (some ⟨b5, o5, none⟩) 4 c5] w5 (RetE w5 (entJ (wdJ d) (base + s) k))) := read_any47 _ _ _ _ _ _ w5 hrd (wd_lt HO.out _ _) (wd_lt HO.out _ _) (wd_lt HO.out _ _) (wd_lt HO.out _ _)
      clear hrd
      obtain ⟨r, hr⟩ : ∃ r, entJ (wdJ d) (base + s) k = r := ⟨_, rfl⟩
      rw [hr] at HRE hsn
      clear hr
      cases r with
      | none =>
        rw [List.append_nil] at hsn
        have HSN := Lib.hid hsn
        clear hsn
        gi_wp2_with (first
          | (refine ⟨trivial, fun h => (by cases h), ?_⟩; refine (callsIn_wide.2 HRE.out).mono ?_; clear HRE; rintro e w6 ⟨rfl, k6⟩)
          | (refine stopIn_store 46 (.tmp 5) (.tmp 18) rfl ?_))
        constructor
        refine wpListIn_store_all rfl 46 (.tmp 5) (.tmp 18) rfl rfl rfl (vs := entC (0, 0)) agg_entry.2 (Blk.new _ _ _) (entC_one _) rfl ?_
        intro w7 d7 k7
        have kr : Keep [] wr w7 := (k5.then k6).then (((Keep.refl [] w6).alloc _).trans k7 (fun y hy h => by simp at hy h; omega))
        have hj7 := abides0 hJ hJr kr
        have HJ7 := Lib.hid hj7
        have HKJ7 := Lib.hid (hkj.trans (KJ.keep kr (fun x hx => ⟨HLT.out x hx, by simp⟩) (by simp)))
        clear k5 k6 k7 kr d7 hj7 hJr hkj
        gi_wp2
        refine ⟨fun f h => (by cases h), ?_⟩
        gi_wp2
        go_roundw
        case rel => exact ⟨k + 1, by omega, by go_num, by rw [HSN.out]; exact HJ7.out, HKJ7.out⟩
        case measure => simp [intOf] <;> omega
      | some en =>
        have HSN := Lib.hid hsn
        have hp2 : sectE (wdJ d) (base + s) k ++ [(k, en)] <+: sectE (wdJ d) (base + s) K := by rw [← hsn]; exact hpre.out
        have HP2 := Lib.hid hp2
        clear hsn hp2
        gi_wp2_with (first
          | (refine ⟨trivial, fun h => (by cases h), ?_⟩; refine (callsIn_wide.2 HRE.out).mono ?_; clear HRE; rintro e w6 ⟨rfl, k6⟩)
          | (refine stopIn_store 46 (.tmp 5) (.tmp 18) rfl ?_))
        constructor
        refine wpListIn_store_all rfl 46 (.tmp 5) (.tmp 18) rfl rfl rfl (vs := entC en) agg_entry.2 (Blk.new _ _ _) (entC_one _) rfl ?_
        intro w7 d7 k7
        have kr : Keep [] wr w7 := (k5.then k6).then (((Keep.refl [] w6).alloc _).trans k7 (fun y hy h => by simp at hy h; omega))
        have hj7 := abides0 hJ hJr kr
        have HKJ7 := Lib.hid (hkj.trans (KJ.keep kr (fun x hx => ⟨HLT.out x hx, by simp⟩) (by simp)))
        have HD7 := Lib.hid d7.cellsAt
        obtain ⟨fn, tmps, assign, body, hy, hR⟩ := hY (sectE (wdJ d) (base + s) k) (k, en) w7 hj7 HP2.out
        dsimp only [encJE] at hy
        rw [← HSN.out] at hR
        clear k5 k6 k7 kr d7 hj7 hJr hkj HP2
        gi_wp2_with (refine stopIn_at 24 rfl ?_)
        constructor
        refine wpListIn_agg_wJ (by rfl) 46 (.tmp 5) rfl rfl (cs := entC en) agg_entry HD7.out ?_
        gi_wp2
        refine ⟨fun h => (by cases h), hR.mono ?_⟩
        rintro e W3 (⟨rfl, hJ3, hk3⟩ | ⟨rfl, hJx3⟩)
        · have HK3 := Lib.hid (HKJ7.out.trans hk3)
          clear hk3
          gi_wp2
          go_roundw
          case rel => exact ⟨k + 1, by omega, by go_num, hJ3, HK3.out⟩
          case measure => simp [intOf] <;> omega
        · gi_wp2
          refine bodyPost_ret (results_none rfl _ _ _) rfl ?_
          exact ⟨⟨_, rfl⟩, .inr ⟨_, hpre.out, hJx3⟩⟩
    · obtain rfl : k = K := by omega
      clear hkj
      gi_wp2
      go_end0
      exact ⟨⟨_, rfl⟩, .inl hJr⟩
end Go.Proofs.Yteanpgkonhdbpaa
