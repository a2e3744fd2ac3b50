/- A bank's sectors and words as iterators; walked. Condition: the device is one that may be, the bank one that fits. -/
import Derived.Test.YteanpgkonhdbpaaBkA
import Derived.Test.YteanpgkonhdbpaaRangeB
import Derived.Test.YteanpgkonhdbpaaIter
namespace Go.Proofs.Yteanpgkonhdbpaa
open Go.RowKit
attribute [local go_sem] Oper.semAt_some

/-- A list of ended loops' marks. -/
def marksB (Ds : List Nat) : List Deferred := Ds.map (fun D => { target := .collected D, args := #[] })
theorem leavesM_marksB {F : Fence} {n : Nat} {P : Program} {fn : Func} {tmps : Array Value} {R : Ending → World → Prop} : ∀ (Ds : List Nat) (W : World), Ds.Nodup → (∀ D ∈ Ds, W.heap[D]? = some (.deferred (some []))) →
    (∀ W', Keep Ds W W' → LeavesIn F n P fn tmps R [] .returning W') → LeavesInM F n P fn tmps R (marksB Ds) .returning W
  | [], W, _, _, h => h W (Keep.refl _ _)
  | D :: Ds, W, hn, hd, h => by
    have h1 := hd D (by simp)
    rw [List.nodup_cons] at hn
    refine ⟨by simp, .inl ⟨D, _, rfl, run_takeDeferred h1, leavesM_marksB Ds _ hn.2 (fun D' hD' => ?_) (fun W' hk => h W' ?_)⟩⟩
    · exact (World.putObj_heap_other (fun e => hn.1 (by subst e; exact hD'))).trans (hd D' (by simp [hD']))
    · exact ((keep_putObj W D _).mono (by simp)).trans hk (fun _ hy _ => List.mem_cons_of_mem _ hy)
section
variable {F : Fence} {n : Nat} {P : Program} {Q : Exit → Act → World → Prop} {a : Act} {w : World}
/-- A region that draws its order, in a walk within a fence: S need not hold behind the operation p. -/
theorem bjB_end {md : Region.Mode} {ops : Array Oper} {p : Nat} {S : World → Prop} {listed : Array Bool} (hr : Region.ready md ops listed = []) (h : Q .normal a w) (fuel : Nat) : wpAnyP P md ops (noOut (noPanic Q)) p S fuel listed a w := ap_done hr (by simpa [noOut, noPanic] using h) fuel
theorem bjB_start {id : Nat} {l : List Oper} (p : Nat) (S : World → Prop) (hF : Open F) (hm : P.follows .mixedOrders = true) (hd : noDefer l = true) (hS : S w.drew)
    (h : S w.drew → PanOk (noOut (noPanic Q)) → wpAnyP P .any l.toArray (noOut (noPanic Q)) p S l.toArray.size (Array.replicate l.toArray.size false) a w.drew) : (Code.region id l.toArray true).wpIn F n P Q a w :=
  wpIn_mono (ap_start p S hF hm hd hS h (fun _ _ d _ _ h => by cases d <;> exact h)) noPanic_le
end
theorem abidesB {β : Type} {B : Nat} {J : β → World → Prop} (h : AbidesFrom B J) {s : β} {W W' : World} (hs : J s W) (k : Keep [] W W') : J s W' :=
  h s W W' none hs ⟨k.os, k.tape, k.output, k.size, fun i hi _ => k.block i hi (by simp)⟩ (fun r e => by cases e)
/-- The sectors behind the first one, as far as one has come; all of them, the first one last. -/
def secPre (base k : Nat) : List Nat := (List.range k).map (fun i => base + 1 + i)
def secOrd (base many : Nat) : List Nat := secPre base (many - 1) ++ [base]
theorem secPre_succ (base k : Nat) : secPre base (k + 1) = secPre base k ++ [base + 1 + k] := by
  unfold secPre
  rw [List.range_succ, List.map_append]
  rfl
theorem secPre_prefix (base : Nat) {i j : Nat} (h : i ≤ j) : secPre base i <+: secPre base j := by
  induction j with
  | zero => obtain rfl : i = 0 := by omega
            exact List.prefix_refl _
  | succ j ih =>
    rcases Nat.lt_or_ge i (j + 1) with h1 | h1
    · exact (ih (by omega)).trans (by rw [secPre_succ]; exact List.prefix_append _ _)
    · obtain rfl : i = j + 1 := by omega
      exact List.prefix_refl _
abbrev encNat (x : Nat) : Array Value := #[.int .i64 (x : Int)]

theorem sectors_any (gb : Nat) (w : World) : Calls Try.prog 76 #[.pointer (some ⟨gb, 0, none⟩)] w fun e w' =>
    e = .returned (.func (.func 118) #[] #[.pointer (some ⟨w.heap.size, 0, none⟩)]) ∧ w.alloc (.cells #[.pointer (some ⟨gb, 0, none⟩)] 60) = w' := by
  go_enter Try.func76, Try.ntmps76
  go_wp2
  go_ret
  exact ⟨rfl, rfl⟩

set_option maxRecDepth 100000 in
set_option maxHeartbeats 4000000 in
theorem sectors1_seq (n : Nat) (gb g : Nat) (b : BkS) (Bb : Nat) (w : World) (hb : BankAt w gb g b) (hBb : Blk w Bb 60 #[.pointer (some ⟨gb, 0, none⟩)]) (h3 : 3 ≤ b.many) (h64 : b.base + b.many ≤ 64) :
    SeqP Fence.wide n Try.prog 118 #[.pointer (some ⟨Bb, 0, none⟩)] encNat (Same [Bb, gb]) (secOrd b.base b.many) w := by
  intro l0 J Jx W hW hJ hJx hY h0
  have hk0 : Keep [] w W := keepB hW
  have hst : ∀ W', Same [Bb, gb] W W' → BankAt W' gb g b ∧ Blk W' Bb 60 #[.pointer (some ⟨gb, 0, none⟩)] := fun W' hk => by
    have hbb : ∀ x t cs, x ∈ [Bb, gb] → Blk w x t cs → Blk W' x t cs := fun x t cs hx hb => (hk x hx).trans (hb.keep0 hk0)
    exact ⟨hbb gb _ _ (by simp) hb, hbb Bb _ _ (by simp) hBb⟩
  have HST := Lib.hid hst
  have HWW : Hid (w.heap.size ≤ W.heap.size) := hk0.size
  clear hst hb hBb hW hk0
  refine callsIn_of_wp Try.func118 rfl trivial ?_ rfl
  simp only [Try.ntmps118, List.size_toArray, List.length_cons, List.length_nil, Nat.reduceAdd, Nat.reduceSub, Array.replicate_succ, Array.replicate_zero, List.push_toArray, List.append_toArray, List.nil_append, List.cons_append]
  gi_wp2
  gi_loopw [3] (fun vi wr => ∃ k : Nat, k ≤ b.many - 1 ∧ vi = .int .i64 ((k + 1 : Nat) : Int) ∧ J (secPre b.base k) wr ∧ Same [Bb, gb] W wr) (fun i _ => b.many - (intOf i).toNat)
  case atStart => exact ⟨0, Nat.zero_le _, rfl, h0, Same.refl _ _⟩
  case round =>
    obtain ⟨k, hk, rfl, hJr, hkj⟩ := hrel
    obtain ⟨hb1, hbb1⟩ := HST.out wr hkj
    have c1 : wr.cell? ⟨Bb, 0, none⟩ = some (.pointer (some ⟨gb, 0, none⟩)) := hbb1.cell 0
    obtain ⟨_, c2, c3, _, _⟩ := hb1.cells
    clear hb1 hbb1
    by_cases hlt : k + 1 < b.many
    · have q0 : decide (((k + 1 : Nat) : Int) < (b.many : Int)) = true := decide_eq_true (by omega)
      have p0 : (k + 1 < b.many) = True := eq_true hlt
      have hw2 : IntKind.i64.wrap (((k + 1 : Nat) : Int) + 1) = ((k + 1 + 1 : Nat) : Int) := by rw [show ((k + 1 : Nat) : Int) + 1 = ((k + 1 + 1 : Nat) : Int) by omega]; exact IntWalk.i64_in _ (by omega)
      have HSN := Lib.hid (secPre_succ b.base k)
      have hpre := Lib.hid ((secPre_prefix b.base (show k + 1 ≤ b.many - 1 by omega)).trans (List.prefix_append (secPre b.base (b.many - 1)) [b.base]))
      obtain ⟨fn, tmps, assign, body, hy, hR⟩ := hY (secPre b.base k) (b.base + 1 + k) wr hJr (by rw [← HSN.out]; exact hpre.out)
      dsimp only [encNat] at hy
      rw [show ((b.base + 1 + k : Nat) : Int) = (b.base : Int) + ((k : Int) + 1) by omega] at hy
      rw [← HSN.out] at hR
      have HKJ := Lib.hid hkj
      clear hkj hJr
      gi_wp2
      refine ⟨fun h => (by cases h), hR.mono ?_⟩
      rintro e W3 (⟨rfl, hJ3, hk3⟩ | ⟨rfl, hJx3⟩)
      · have HK3 := Lib.hid (HKJ.out.trans hk3)
        clear hk3
        gi_wp2
        go_roundw
        case rel => exact ⟨k + 1, by omega, by go_num, hJ3, HK3.out⟩
        case measure => simp [intOf] <;> omega
      · gi_wp2
        refine bodyPost_ret (results_none rfl _ _ _) rfl ?_
        exact ⟨⟨_, rfl⟩, .inr ⟨_, hpre.out, hJx3⟩⟩
    · have hkm : k = b.many - 1 := by omega
      have q0 : decide (((k + 1 : Nat) : Int) < (b.many : Int)) = false := decide_eq_false (by omega)
      have p0 : (k + 1 < b.many) = False := eq_false hlt
      have HSO : Hid (secPre b.base k ++ [b.base] = secOrd b.base b.many) := by show _ = _; rw [hkm]; rfl
      obtain ⟨fn, tmps, assign, body, hy, hR⟩ := hY (secPre b.base k) b.base wr hJr (by rw [HSO.out]; exact List.prefix_refl _)
      dsimp only [encNat] at hy
      rw [HSO.out] at hR
      clear hkj hJr hkm
      gi_wp2
      refine ⟨fun h => (by cases h), hR.mono ?_⟩
      rintro e W3 (⟨rfl, hJ3, hk3⟩ | ⟨rfl, hJx3⟩)
      · clear hk3
        gi_wp2
        go_end0
        exact ⟨⟨_, rfl⟩, .inl hJ3⟩
      · gi_wp2
        go_end0
        exact ⟨⟨_, rfl⟩, .inr ⟨_, List.prefix_refl _, hJx3⟩⟩

/-- The first so many words of data. -/
def dataB (d : Dev) (b : BkS) (n : Nat) : List Nat := (d.bits.drop ((b.base + 2) * d.nw)).take n
theorem dataB_len {d : Dev} (ho : d.Ok) {b : BkS} (hk : BkOk d b) {n : Nat} (hn : n ≤ (b.many - 2) * d.nw) : (dataB d b n).length = n := by
  unfold dataB
  rw [List.length_take, List.length_drop, ho.blen]
  have h1 := hk.three
  have h2 := Nat.mul_le_mul_right d.nw hk.fits
  have h3 : (b.base + b.many) * d.nw = (b.base + 2) * d.nw + (b.many - 2) * d.nw := by rw [← Nat.add_mul]; congr 1; omega
  omega
theorem dataB_get {d : Dev} {b : BkS} {n k : Nat} (hk : k < n) : (dataB d b n)[k]? = d.bits[(b.base + 2) * d.nw + k]? := by
  unfold dataB
  rw [List.getElem?_take, if_pos hk, List.getElem?_drop]
theorem dataB_succ {d : Dev} (ho : d.Ok) {b : BkS} (hk : BkOk d b) {k : Nat} (hn : k < (b.many - 2) * d.nw) : dataB d b (k + 1) = dataB d b k ++ [d.bits.getD ((b.base + 2) * d.nw + k) 0] := by
  have hl : k < (d.bits.drop ((b.base + 2) * d.nw)).length := by
    have := dataB_len ho hk (n := k + 1) (by omega)
    unfold dataB at this
    rw [List.length_take] at this
    omega
  unfold dataB
  rw [List.take_succ_eq_append_getElem hl, List.getElem_drop]
  congr 2
  rw [List.length_drop] at hl
  rw [List.getD_eq_getElem?_getD, List.getElem?_eq_getElem (by omega)]
  rfl
theorem dataB_prefix (d : Dev) (b : BkS) {i j : Nat} (h : i ≤ j) : dataB d b i <+: dataB d b j := by
  unfold dataB
  exact List.take_prefix_take_left h
theorem place_data {d : Dev} (ho : d.Ok) {b : BkS} (hk : BkOk d b) {k : Nat} (hn : k < (b.many - 2) * d.nw) : b.base + 2 + k / d.nw < d.ns ∧ k % d.nw < d.nw ∧ (b.base + 2 + k / d.nw) * d.nw + k % d.nw = (b.base + 2) * d.nw + k := by
  have h1 := ho.nw1
  have h2 : k / d.nw < b.many - 2 := (Nat.div_lt_iff_lt_mul h1).2 hn
  have h3 := hk.fits
  have h4 : b.base + 2 + k / d.nw < d.ns := by
    generalize k / d.nw = p at *
    omega
  refine ⟨h4, Nat.mod_lt _ h1, ?_⟩
  rw [Nat.add_mul (b.base + 2), Nat.add_assoc]
  congr 1
  rw [Nat.mul_comm]
  exact Nat.div_add_mod k d.nw
theorem read_data {d : Dev} (ho : d.Ok) (hon : d.on = true) {b : BkS} (hk : BkOk d b) {k : Nat} (hn : k < (b.many - 2) * d.nw) : readS d ((b.base + 2 + k / d.nw : Nat) : Int) ((k % d.nw : Nat) : Int) = (d.bits.getD ((b.base + 2) * d.nw + k) 0, 0) := by
  obtain ⟨h1, h2, h3⟩ := place_data ho hk hn
  unfold readS
  rw [if_neg (by rw [hon]; decide), isS_nat h1 h2, if_pos rfl, atS_nat, h3]
abbrev encU (x : Nat) : Array Value := #[.int .u32 (x : Int)]

theorem words_any8 (gb : Nat) (n : Int) (w : World) : Calls Try.prog 72 #[.pointer (some ⟨gb, 0, none⟩), .int .i64 n] w fun e w' =>
    e = .returned (.func (.func 111) #[] #[.pointer (some ⟨w.heap.size + 1, 0, none⟩), .pointer (some ⟨w.heap.size, 0, none⟩)]) ∧ (w.alloc (.cells #[.pointer (some ⟨gb, 0, none⟩)] 60)).alloc (.cells #[.int .i64 n] 3) = w' := by
  go_enter Try.func72, Try.ntmps72
  go_wp2
  go_ret
  exact ⟨rfl, rfl⟩

set_option maxRecDepth 100000 in
set_option maxHeartbeats 4000000 in
theorem words1_seq8 (n : Nat) (gb g b1 b2 : Nat) (d : Dev) (b : BkS) (m Bb Bm : Nat) (w : World) (hb : BankAt w gb g b) (hd : DevAt w g b1 b2 d) (ho : d.Ok) (hk : BkOk d b) (hon : d.on = true) (hm : m ≤ (b.many - 2) * d.nw) (hBb : Blk w Bb 60 #[.pointer (some ⟨gb, 0, none⟩)]) (hBm : Blk w Bm 3 #[.int .i64 (m : Int)]) :
    SeqP Fence.wide n Try.prog 111 #[.pointer (some ⟨Bm, 0, none⟩), .pointer (some ⟨Bb, 0, none⟩)] encU (Same [Bb, Bm, gb, g, b1, b2]) (dataB d b m) w := by
  intro l0 J Jx W hW hJ hJx hY h0
  have hk0 : Keep [] w W := keepB hW
  have hst : ∀ W', Same [Bb, Bm, gb, g, b1, b2] W W' → BankAt W' gb g b ∧ DevAt W' g b1 b2 d ∧ Blk W' Bb 60 #[.pointer (some ⟨gb, 0, none⟩)] ∧ Blk W' Bm 3 #[.int .i64 (m : Int)] := fun W' hk => by
    have hbb : ∀ x t cs, x ∈ [Bb, Bm, gb, g, b1, b2] → Blk w x t cs → Blk W' x t cs := fun x t cs hx hb => (hk x hx).trans (hb.keep0 hk0)
    exact ⟨hbb gb _ _ (by simp) hb, ⟨hbb g _ _ (by simp) hd.dev, hbb b1 _ _ (by simp) hd.bits, hbb b2 _ _ (by simp) hd.worn⟩, hbb Bb _ _ (by simp) hBb, hbb Bm _ _ (by simp) hBm⟩
  have HST := Lib.hid hst
  have HO := Lib.hid ho
  have HK := Lib.hid hk
  have HON := Lib.hid hon
  have HM := Lib.hid hm
  have cm : W.cell? ⟨Bm, 0, none⟩ = some (.int .i64 (m : Int)) := (hst W (Same.refl _ _)).2.2.2.cell 0
  have hm64 : m ≤ 65536 := by
    have h1 := hk.fits
    have h2 := ho.ns2
    have h3 := Nat.mul_le_mul (show b.many - 2 ≤ 64 by omega) ho.nw2
    omega
  clear hst hb hd hBb hBm hW hk0 ho hk hon hm
  refine callsIn_of_wp Try.func111 rfl trivial ?_ rfl
  simp only [Try.ntmps111, List.size_toArray, List.length_cons, List.length_nil, Nat.reduceAdd, Nat.reduceSub, Array.replicate_succ, Array.replicate_zero, List.push_toArray, List.append_toArray, List.nil_append, List.cons_append]
  gi_wp2
  clear cm
  gi_loopw [10] (fun vi wr => ∃ k : Nat, k ≤ m ∧ vi = .int .i64 (k : Int) ∧ J (dataB d b k) wr ∧ Same [Bb, Bm, gb, g, b1, b2] W wr) (fun i _ => m - (intOf i).toNat)
  case atStart => exact ⟨0, Nat.zero_le _, rfl, h0, Same.refl _ _⟩
  case round =>
    obtain ⟨k, hk, rfl, hJr, hkj⟩ := hrel
    by_cases hlt : k < m
    · obtain ⟨hb1, hd1, hbb1, _⟩ := HST.out wr hkj
      have c1 : wr.cell? ⟨Bb, 0, none⟩ = some (.pointer (some ⟨gb, 0, none⟩)) := hbb1.cell 0
      have HDA := Lib.hid (bdata_any gb g b1 b2 d b wr hb1 hd1 HO.out HK.out k (by omega))
      have HRE : Hid (∀ W', Keep [] wr W' → Calls Try.prog 112 #[.pointer (some ⟨g, 0, none⟩), .int .i64 ((b.base + 2 + k / d.nw : Nat) : Int), .int .i64 ((k % d.nw : Nat) : Int)] W' fun e w' => e = .returned (.tuple #[.int .u32 ((d.bits.getD ((b.base + 2) * d.nw + k) 0 : Nat) : Int), .int .i64 0]) ∧ W' = w') := fun W' kk => by
        have := fread_any g b1 b2 d ((b.base + 2 + k / d.nw : Nat) : Int) ((k % d.nw : Nat) : Int) W' (hd1.keep0 kk) HO.out
        rw [read_data HO.out HON.out HK.out (by have := HM.out; omega)] at this
        exact this
      have hHC : Hid (∀ W', Keep [] wr W' → W'.cell? ⟨Bb, 0, none⟩ = some (.pointer (some ⟨gb, 0, none⟩)) ∧ W'.cell? ⟨gb, 0, none⟩ = some (.pointer (some ⟨g, 0, none⟩))) := fun W' kk => ⟨(hbb1.keep0 kk).cell 0, (hb1.keep0 kk).cells.1⟩
      have HSN := Lib.hid (dataB_succ HO.out HK.out (b := b) (k := k) (by have := HM.out; omega))
      have hpre := Lib.hid (dataB_prefix d b (show k + 1 ≤ m by omega))
      have hsame : ∀ W', Keep [] wr W' → Same [Bb, Bm, gb, g, b1, b2] W W' := fun W' kk => hkj.trans (Same.keep kk (fun x hx => ⟨by
        obtain ⟨ga, gd, ge, gf⟩ := HST.out wr hkj
        have h1 := ge.lt
        have h2 := gf.lt
        have h3 := Blk.lt ga
        have h4 := gd.dev.lt
        have h5 := gd.bits.lt
        have h6 := gd.worn.lt
        simp only [List.mem_cons, List.not_mem_nil, or_false] at hx
        omega, by simp⟩))
      have HSA := Lib.hid hsame
      generalize d.bits.getD ((b.base + 2) * d.nw + k) 0 = x at *
      generalize b.base + 2 + k / d.nw = p at *
      generalize k % d.nw = r at *
      have hw2 : IntKind.i64.wrap ((k : Int) + 1) = ((k + 1 : Nat) : Int) := by rw [show (k : Int) + 1 = ((k + 1 : Nat) : Int) by omega]; exact IntWalk.i64_in _ (by omega)
      clear hb1 hd1 hbb1 hsame hkj
      gi_wp2_with (refine ⟨trivial, fun h => (by cases h), ?_⟩; refine (callsIn_wide.2 HDA.out).mono ?_; clear HDA; rintro e w2 ⟨rfl, k2⟩; obtain ⟨d1, d2⟩ := hHC.out w2 k2; have hre2 := HRE.out w2 k2)
      refine ⟨trivial, fun h => (by cases h), ?_⟩
      refine (callsIn_wide.2 hre2).mono ?_
      rintro e w3 ⟨rfl, rfl⟩
      obtain ⟨fn, tmps, assign, body, hy, hR⟩ := hY (dataB d b k) x w2 (abidesB hJ hJr k2) (by rw [← HSN.out]; exact hpre.out)
      dsimp only [encU] at hy
      rw [← HSN.out] at hR
      have HS2 := Lib.hid (HSA.out w2 k2)
      clear hre2 d1 d2 k2 hJr hHC HSA
      gi_wp2
      refine ⟨fun h => (by cases h), hR.mono ?_⟩
      rintro e W3 (⟨rfl, hJ3, hk3⟩ | ⟨rfl, hJx3⟩)
      · have HK3 := Lib.hid (HS2.out.trans hk3)
        clear hk3
        gi_wp2
        go_roundw
        case rel => exact ⟨k + 1, by omega, by go_num, hJ3, HK3.out⟩
        case measure => simp [intOf] <;> omega
      · gi_wp2
        refine bodyPost_ret (results_none rfl _ _ _) rfl ?_
        exact ⟨⟨_, rfl⟩, .inr ⟨_, hpre.out, hJx3⟩⟩
    · obtain rfl : k = m := by omega
      clear hkj
      gi_wp2
      go_end0
      exact ⟨⟨_, rfl⟩, .inl hJr⟩
end Go.Proofs.Yteanpgkonhdbpaa
