/- The modes to which an edge goes from a mode (graph's Next), one by one; the set of one number (mask's Of). No condition. Which modes can be reached from a mode (graph's Reach). Condition: the table of math/bits lies where the program's text lays it; an image that may be. -/
import Derived.Test.YteocldlglklnjaaDoorRouteJ
namespace Go.Proofs.YteocldlglklnjaaDoor
open Go.RowKit
attribute [local go_sem] Oper.semAt_some

set_option maxRecDepth 100000 in
theorem mof_any (n : Int) (b : Nat) (w : World) (hb : w.cell? ⟨b, 0, none⟩ = some (.int .i64 n)) :
    Calls Tryd.prog 63 #[.slice (some ⟨b, 0, none⟩) 1 1] w fun e w' => e = .returned (.int .u32 (bitN n : Int)) ∧ w = w' := by
  have hu := u32_or_nat 0 (bitN n) (by decide) (bitN_lt n)
  rw [Nat.zero_or] at hu
  have HU := Lib.hid hu
  clear hu
  go_enter Tryd.func63, Tryd.ntmps63
  go_wp2
  go_loop [3, 8] (fun sv i => ∃ k : Nat, k ≤ 1 ∧ i = .int .i64 (k : Int) ∧ sv = .int .u32 (if k = 0 then 0 else (bitN n : Int))) (fun _ i => 1 - (intOf i).toNat)
  case atStart => exact ⟨0, by omega, rfl, rfl⟩
  case round =>
    obtain ⟨k, hk, rfl, rfl⟩ := hrel
    by_cases h : k = 0
    · subst h
      rw [if_pos rfl]
      go_wp2_with (refine (bit_any n _).mono ?_; rintro e w' ⟨rfl, rfl⟩)
      go_round
      case rel => exact ⟨1, by omega, rfl, by rw [if_neg (by omega)]; exact congrArg (Value.int .u32) HU.out⟩
      case measure => simp [intOf]
    · obtain rfl : k = 1 := by omega
      rw [if_neg h]
      go_wp2
      go_ret
      exact ⟨rfl, rfl⟩
theorem next_any (v : ImgV) (x : Img) (m : Int) (w : World) : Calls Tryd.prog 64 #[.agg (imgCells v x).toArray, .int .i64 m] w fun e w' =>
    e = .returned (.func (.func 82) #[] #[.pointer (some ⟨w.heap.size, 0, none⟩), .pointer (some ⟨w.heap.size + 1, 0, none⟩)]) ∧ (w.alloc (.cells (imgCells v x).toArray 26)).alloc (.cells #[.int .i64 m] 3) = w' := by
  generalize (imgCells v x).toArray = il
  go_enter Tryd.func64, Tryd.ntmps64
  go_wp2
  go_ret
  exact ⟨rfl, rfl⟩
def nextStep (x : Img) (m : Int) (k : Nat) : List PII := match x.edges[k]? with | some e => if e.frm = m then [(e.to, (k : Int))] else [] | none => []
def nextK (x : Img) (m : Int) : Nat → List PII
  | 0 => []
  | k + 1 => nextK x m k ++ nextStep x m k
theorem nextK_prefix (x : Img) (m : Int) {a b : Nat} (h : a ≤ b) : nextK x m a <+: nextK x m b := by
  induction b with
  | zero => obtain rfl : a = 0 := by omega
            exact List.prefix_refl _
  | succ b ih =>
    by_cases e : a = b + 1
    · subst e; exact List.prefix_refl _
    · exact (ih (by omega)).trans ⟨_, rfl⟩
theorem nextStep_yes {x : Img} {m : Int} {k : Nat} (h : k < x.edges.length) (hm : x.edges[k].frm = m) : nextStep x m k = [(x.edges[k].to, (k : Int))] := by
  unfold nextStep; rw [List.getElem?_eq_getElem h]; simp only; rw [if_pos hm]
theorem nextStep_no {x : Img} {m : Int} {k : Nat} (h : k < x.edges.length) (hm : ¬ x.edges[k].frm = m) : nextStep x m k = [] := by
  unfold nextStep; rw [List.getElem?_eq_getElem h]; simp only; rw [if_neg hm]
theorem nextK_mem {x : Img} {m : Int} {p : PII} : ∀ {k : Nat}, p ∈ nextK x m k ↔ ∃ i, ∃ hi : i < x.edges.length, i < k ∧ x.edges[i].frm = m ∧ p = (x.edges[i].to, (i : Int))
  | 0 => by simp [nextK]
  | k + 1 => by
    rw [nextK, List.mem_append, nextK_mem (k := k)]
    constructor
    · rintro (⟨i, hi, h1, h2, h3⟩ | h)
      · exact ⟨i, hi, by omega, h2, h3⟩
      · unfold nextStep at h
        by_cases hk : k < x.edges.length
        · rw [List.getElem?_eq_getElem hk] at h
          simp only at h
          split at h
          · rename_i hm
            exact ⟨k, hk, by omega, hm, by simpa using h⟩
          · cases h
        · rw [List.getElem?_eq_none (by omega)] at h
          cases h
    · rintro ⟨i, hi, h1, h2, h3⟩
      by_cases e : i = k
      · subst e
        exact .inr (by rw [nextStep_yes hi h2, h3]; simp)
      · exact .inl ⟨i, hi, by omega, h2, h3⟩
/-- The blocks that it reads. -/
def nextB (v : ImgV) (x : Img) (Bi Bm : Nat) : List Nat := Bi :: Bm :: (if 0 < x.edges.length then (v.ea.map (·.block)).toList else [])
theorem nextB_mem {V : World} {v : ImgV} {x : Img} (hx : ImgAt V v x) {Bi Bm k : Nat} (h : k ∈ nextB v x Bi Bm) : k = Bi ∨ k = Bm ∨ k < V.heap.size := by
  unfold nextB at h
  simp only [List.mem_cons] at h
  rcases h with h | h | h
  · exact .inl h
  · exact .inr (.inl h)
  · split at h
    · rename_i h0
      obtain ⟨b, o, hA, hb, _⟩ := hx.edge h0
      rw [hA] at h
      obtain rfl : k = b := by simpa using h
      exact .inr (.inr hb)
    · cases h
set_option maxRecDepth 100000 in
set_option maxHeartbeats 4000000 in
theorem next1_seq (n : Nat) (v : ImgV) (x : Img) (m : Int) (Bi Bm : Nat) (w : World) (hx : ImgAt w v x) (hBi : Bi < w.heap.size) (hBm : Bm < w.heap.size) (hbi : Blk w Bi 26 (imgCells v x).toArray) (hbm : Blk w Bm 3 #[.int .i64 m]) :
    SeqP Fence.wide n Tryd.prog 82 #[.pointer (some ⟨Bi, 0, none⟩), .pointer (some ⟨Bm, 0, none⟩)] encPII (Same (nextB v x Bi Bm)) (nextK x m x.edges.length) w := by
  intro l0 J Jx W hW hJ hJx hY h0
  have c3 : W.cell? ⟨Bi, 3, none⟩ = some (.slice v.ea x.edges.length v.ec) := (hW.cell (p := ⟨Bi, 3, none⟩) hBi).trans (img_c3 hbi)
  have HBM : Hid (∀ wr, Same (nextB v x Bi Bm) W wr → wr.cell? ⟨Bm, 0, none⟩ = some (.int .i64 m)) := fun wr hk => (hk.cell (p := ⟨Bm, 0, none⟩) (by simp [nextB])).trans ((hW.cell (p := ⟨Bm, 0, none⟩) hBm).trans (by rw [hbm.cell]; rfl))
  have hlx := hx.le
  unfold maxLen at hlx
  have HEd : Hid (∀ i, (hi : i < x.edges.length) → ∃ b o, v.ea = some ⟨b, o, none⟩ ∧ ∀ wr, Same (nextB v x Bi Bm) W wr → CellsAt wr b (o + i * 23) (edgCells x.edges[i])) := fun i hi => by
    obtain ⟨b, o, hA, hbw, hcs⟩ := hx.edge (by omega)
    refine ⟨b, o, hA, fun wr hk j u hu => ?_⟩
    have e1 := hcs i hi j u hu
    refine ((hk.cell (p := ⟨b, o + i * 23 + j, none⟩) (by simp [nextB, hA, show 0 < x.edges.length by omega])).trans (hW.cell (p := ⟨b, o + i * 23 + j, none⟩) hbw)).trans e1
  have HELn : Hid (∀ i, (hi : i < x.edges.length) → (edgCells x.edges[i]).length = 23) := fun i hi => edgCells_len (hx.ok.offs _ (List.getElem_mem hi)) (hx.ok.mp _ (List.getElem_mem hi))
  have HLX := Lib.hid hlx
  have HCW : Hid (∀ y ∈ nextB v x Bi Bm, y < W.heap.size) := fun y hy => by
    have := hW.size
    rcases nextB_mem hx hy with rfl | rfl | h <;> omega
  clear hx hbi hbm hlx
  refine callsIn_of_wp Tryd.func82 rfl trivial ?_ rfl
  simp only [Tryd.ntmps82, List.size_toArray, List.length_cons, List.length_nil, Nat.reduceAdd, Nat.reduceSub, Array.replicate_succ, Array.replicate_zero, List.push_toArray, List.append_toArray, List.nil_append, List.cons_append]
  gi_wp2
  gi_loopw [9] (fun vi wr => ∃ k : Nat, k ≤ x.edges.length ∧ vi = .int .i64 (k : Int) ∧ J (nextK x m k) wr ∧ Same (nextB v x Bi Bm) W wr) (fun i _ => x.edges.length - (intOf i).toNat)
  case atStart => exact ⟨0, Nat.zero_le _, rfl, h0, Same.refl _ _⟩
  case round =>
    clear c3
    obtain ⟨k, hk, rfl, hJr, hS⟩ := hrel
    have hlx := HLX.out
    by_cases hlt : k < x.edges.length
    · obtain ⟨eb, eo, heA, hec⟩ := HEd.out k hlt
      have hce := hec wr hS
      have hbm := HBM.out wr hS
      have HL23 := Lib.hid (HELn.out k hlt)
      have HEone : Hid (∀ u ∈ edgCells x.edges[k], u.oneCell' = true) := iv_one _
      have hg0 : Hid ((edgCells x.edges[k])[0]? = some (.int .i64 x.edges[k].frm)) := show _ = _ from rfl
      have hg1 : Hid ((edgCells x.edges[k])[1]? = some (.int .i64 x.edges[k].to)) := show _ = _ from rfl
      have hpre := Lib.hid (nextK_prefix x m (show k + 1 ≤ x.edges.length by omega))
      have HY := Lib.hid (@nextStep_yes x m k hlt)
      have HN := Lib.hid (@nextStep_no x m k hlt)
      have HK1 : Hid (nextK x m (k + 1) = nextK x m k ++ nextStep x m k) := rfl
      rw [heA]
      have p4 : (0 : Int) ≤ (k : Int) := by omega
      have p5 : (k : Int) < (x.edges.length : Int) := by omega
      have p6 : decide ((k : Int) < (x.edges.length : Int)) = true := decide_eq_true p5
      generalize edgCells x.edges[k] = ec at *
      generalize x.edges[k].frm = fr at *
      generalize x.edges[k].to = to_ at *
      have hcE := Lib.hid hce
      have HS := Lib.hid hS
      have HJR := Lib.hid hJr
      have HBm := Lib.hid hbm
      have hzW : Bm < wr.heap.size := World.block_lt_of_cell? _ _ hbm
      clear hec hce hS hJr hbm heA
      gi_wp2_with (first
        | (refine wpListIn_agg rfl 45 (.tmp 12) rfl rfl (cs := ec) (by rw [HL23.out]; exact agg_edge23) hcE.out ?_)
        | (refine stopIn_store 45 (.tmp 5) (.tmp 13) rfl ?_))
      constructor
      refine wpListIn_store_all rfl 45 (.tmp 5) (.tmp 13) rfl rfl rfl (vs := ec) (by rw [HL23.out]; exact agg_edge23.2) (Blk.new _ _ _) HEone.out ?_ ?_
      · rw [HL23.out]; rfl
      intro w4 d4 k4
      have k34 : Keep [] wr w4 := ((Keep.refl [] wr).alloc _).trans k4 (fun y hy hlt => by simp at hy; omega)
      have hg34 : wr.grownBy w4 none := ⟨k34.os, k34.tape, k34.output, k34.size, fun i hi _ => k34.block i hi (by simp)⟩
      have hJ4 := hJ _ wr w4 none HJR.out hg34 (fun r e => by cases e)
      have hS4 : Same (nextB v x Bi Bm) W w4 := fun y hy => by
        have h1 := HS.out y hy
        rcases Nat.lt_or_ge y wr.heap.size with h2 | h2
        · exact (k34.block y h2 (by simp)).trans h1
        · exfalso
          have h3 := HCW.out y hy
          rw [Array.getElem?_eq_none h2, Array.getElem?_eq_getElem h3] at h1
          cases h1
      have e0 := d4.at_ hg0.out
      have e1 := d4.at_ hg1.out
      have em := (k34.cell (p := ⟨Bm, 0, none⟩) hzW (by simp)).trans HBm.out
      clear k34 k4 hg34 d4 hcE
      by_cases hc : fr = m
      · have z1 : (fr == m) = true := by simp; exact hc
        have z2 : decide (fr = m) = true := decide_eq_true hc
        have hst := HY.out hc
        have HK2 : Hid (nextK x m (k + 1) = nextK x m k ++ [(to_, (k : Int))]) := by show _ = _; rw [HK1.out, hst]
        have hlen : nextK x m k ++ [(to_, (k : Int))] <+: nextK x m x.edges.length := by rw [← HK2.out]; exact hpre.out
        obtain ⟨fn, tmps, assign, body, hy, hR⟩ := hY (nextK x m k) (to_, (k : Int)) w4 hJ4 hlen
        dsimp only [encPII] at hy
        rw [← HK2.out] at hR
        clear hst hlen hJ4
        gi_wp2
        refine ⟨fun h => (by cases h), hR.mono ?_⟩
        rintro e W3 (⟨rfl, hJ3, hk3⟩ | ⟨rfl, hJx3⟩)
        · have hk4 := Lib.hid (hS4.trans hk3)
          gi_wp2
          go_roundw
          case rel => exact ⟨k + 1, by omega, by go_num, hJ3, hk4.out⟩
          case measure => simp [intOf] <;> omega
        · gi_wp2
          refine bodyPost_ret (results_none rfl _ _ _) rfl ?_
          exact ⟨⟨_, rfl⟩, .inr ⟨_, hpre.out, hJx3⟩⟩
      · have z1 : (fr == m) = false := by simp; exact hc
        have z2 : decide (fr = m) = false := decide_eq_false hc
        have hst := HN.out hc
        have HK2 : Hid (nextK x m (k + 1) = nextK x m k) := by show _ = _; rw [HK1.out, hst, List.append_nil]
        have HJ4 := Lib.hid hJ4
        clear hst hJ4
        gi_wp2
        refine ⟨fun f h => (by cases h), ?_⟩
        gi_wp2
        go_roundw
        case rel => exact ⟨k + 1, by omega, by go_num, by rw [HK2.out]; exact HJ4.out, hS4⟩
        case measure => simp [intOf] <;> omega
    · obtain rfl : k = x.edges.length := by omega
      have p6 : decide ((x.edges.length : Int) < (x.edges.length : Int)) = false := by simp
      gi_wp2
      go_end0
      exact ⟨⟨_, rfl⟩, .inl hJr⟩
end Go.Proofs.YteocldlglklnjaaDoor

namespace Go.Proofs.YteocldlglklnjaaDoor
open Go.RowKit
attribute [local go_sem] Oper.semAt_some noOut_normal

theorem bitN_iff {n : Int} {v : Nat} (h : 0 ≤ n ∧ n ≤ 31) : (bitN n).testBit v = true ↔ n = (v : Int) := by
  unfold bitN
  rw [if_pos h, Nat.testBit_two_pow]
  simp
  omega
def foundIn (f : Nat) (l : List PII) : Nat := l.foldl (fun a p => a ||| bitN p.1) f
theorem foundIn_snoc (f : Nat) (l : List PII) (p : PII) : foundIn f (l ++ [p]) = foundIn f l ||| bitN p.1 := by unfold foundIn; rw [List.foldl_append]; rfl
theorem foundIn_lt {f : Nat} (hf : f < 4294967296) : ∀ (l : List PII), foundIn f l < 4294967296 := by
  intro l
  induction l generalizing f with
  | nil => exact hf
  | cons p l ih => exact ih (Nat.or_lt_two_pow (n := 32) hf (bitN_lt _))
theorem foundIn_bit (v : Nat) : ∀ (l : List PII) (f : Nat), (foundIn f l).testBit v = true ↔ f.testBit v = true ∨ ∃ p ∈ l, (bitN p.1).testBit v = true
  | [], f => by simp [foundIn]
  | p :: l, f => by
    show (foundIn (f ||| bitN p.1) l).testBit v = true ↔ _
    rw [foundIn_bit v l, Nat.testBit_or, Bool.or_eq_true]
    simp only [List.mem_cons, exists_eq_or_imp, or_assoc]
def foundN (x : Img) (pre : List Nat) : Nat := pre.foldl (fun a (m : Nat) => foundIn a (nextK x (m : Int) x.edges.length)) 0
theorem foundN_snoc (x : Img) (pre : List Nat) (m : Nat) : foundN x (pre ++ [m]) = foundIn (foundN x pre) (nextK x (m : Int) x.edges.length) := by unfold foundN; rw [List.foldl_append]; rfl
theorem foundN_lt (x : Img) (pre : List Nat) : foundN x pre < 4294967296 := by
  unfold foundN
  suffices ∀ (l : List Nat) (f : Nat), f < 4294967296 → l.foldl (fun a (m : Nat) => foundIn a (nextK x (m : Int) x.edges.length)) f < 4294967296 from this pre 0 (by omega)
  intro l
  induction l with
  | nil => exact fun f hf => hf
  | cons m l ih => exact fun f hf => ih _ (foundIn_lt hf _)
theorem foundN_bit (x : Img) (v : Nat) (pre : List Nat) : (foundN x pre).testBit v = true ↔ ∃ m ∈ pre, ∃ p ∈ nextK x (m : Int) x.edges.length, (bitN p.1).testBit v = true := by
  unfold foundN
  suffices ∀ (l : List Nat) (f : Nat), (l.foldl (fun a (m : Nat) => foundIn a (nextK x (m : Int) x.edges.length)) f).testBit v = true ↔ f.testBit v = true ∨ ∃ m ∈ l, ∃ p ∈ nextK x (m : Int) x.edges.length, (bitN p.1).testBit v = true by
    rw [this]; simp
  intro l
  induction l with
  | nil => intro f; simp
  | cons m l ih =>
    intro f
    show (l.foldl _ (foundIn f _)).testBit v = true ↔ _
    rw [ih, foundIn_bit]
    simp only [List.mem_cons, exists_eq_or_imp, or_assoc]
/-- What is found is what edges lead to. -/
theorem found_es {x : Img} {es : List Eg} (hr : (chkImg x).2 = 0) (hes : EgsOf x es) (fresh : Nat) (v : Nat) : (foundN x (bitsL fresh)).testBit v = true ↔ ∃ e ∈ es, e.v = v ∧ fresh.testBit e.u = true := by
  have hR := right_of hr
  have hM8 := hR.nm.2
  rw [foundN_bit]
  constructor
  · rintro ⟨m, hm, p, hp, hb⟩
    obtain ⟨i, hi, _, h1, rfl⟩ := nextK_mem.1 hp
    obtain ⟨n, l, h2⟩ := hes.at_ i hi
    have h3 := hR.edgeIn i hi
    have h4 := (bitN_iff (by have := h3.2.1; omega)).1 hb
    refine ⟨_, List.mem_of_getElem? h2, ?_, ?_⟩
    · simp only at h4 ⊢; omega
    · have : x.edges[i].frm.toNat = m := by omega
      simp only [this]; exact (bitsL_mem.1 hm).2
  · rintro ⟨e, he, hv, hu⟩
    obtain ⟨i, hi, rfl⟩ := List.getElem_of_mem he
    have hi2 : i < x.edges.length := by rw [← hes.len]; exact hi
    obtain ⟨n, l, h2⟩ := hes.at_ i hi2
    have h3 := hR.edgeIn i hi2
    rw [List.getElem?_eq_getElem hi] at h2
    injection h2 with h2
    rw [h2] at hv hu
    simp only at hv hu
    refine ⟨x.edges[i].frm.toNat, bitsL_mem.2 ⟨by have := h3.1; omega, hu⟩, (x.edges[i].to, (i : Int)), nextK_mem.2 ⟨i, hi2, hi2, by have := h3.1; omega, rfl⟩, ?_⟩
    exact (bitN_iff (by have := h3.2.1; omega)).2 (by have := h3.2.1; simp only; omega)
/-- The next round's sets. -/
def freshOf (found all : Nat) : Nat := found &&& (4294967295 - all)
theorem freshOf_bit {found all : Nat} (ha : all < 4294967296) (hf : found < 4294967296) (v : Nat) : (freshOf found all).testBit v = (found.testBit v && !all.testBit v) := by
  unfold freshOf
  rw [Nat.testBit_and]
  have e : 4294967295 - all = 2 ^ 32 - (all + 1) := by omega
  rw [e, Nat.testBit_two_pow_sub_succ ha]
  by_cases hv : v < 32
  · simp [hv]
  · have : found.testBit v = false := Nat.testBit_lt_two_pow (Nat.lt_of_lt_of_le hf (Nat.pow_le_pow_right (n := 2) (i := 32) (j := v) (by decide) (by omega)))
    simp [this]
theorem set_lt8 {a M : Nat} (hM : M ≤ 8) (h : ∀ v, a.testBit v = true → v < M) : a < 256 := by
  have : a < 2 ^ 8 := Nat.lt_pow_two_of_testBit a (fun i hi => by
    cases hb : a.testBit i with
    | false => rfl
    | true => have := h i hb; omega)
  simpa using this
theorem or_more {all fresh : Nat} (h0 : fresh ≠ 0) (h : ∀ v, fresh.testBit v = true → all.testBit v = false) : all < all ||| fresh := by
  have h1 : all ≤ all ||| fresh := Nat.left_le_or
  rcases Nat.lt_or_ge all (all ||| fresh) with h2 | h2
  · exact h2
  · exfalso
    have e : all ||| fresh = all := by omega
    obtain ⟨v, hv⟩ := Nat.exists_testBit_of_ne_zero h0
    have h3 := h v hv
    rw [← e, Nat.testBit_or, hv, Bool.or_true] at h3
    cases h3
/-- A list of ended loops' marks. -/
def marksOf (Ds : List Nat) : List Deferred := Ds.map (fun D => { target := .collected D, args := #[] })
theorem leavesM_marks {F : Fence} {n : Nat} {P : Program} {fn : Func} {tmps : Array Value} {R : Ending → World → Prop} : ∀ (Ds : List Nat) (W : World), Ds.Nodup → (∀ D ∈ Ds, W.heap[D]? = some (.deferred (some []))) →
    (∀ W', Keep Ds W W' → LeavesIn F n P fn tmps R [] .returning W') → LeavesInM F n P fn tmps R (marksOf Ds) .returning W
  | [], W, _, _, h => h W (Keep.refl _ _)
  | D :: Ds, W, hn, hd, h => by
    have h1 := hd D (by simp)
    rw [List.nodup_cons] at hn
    refine ⟨by simp, .inl ⟨D, _, rfl, run_takeDeferred h1, leavesM_marks Ds _ hn.2 (fun D' hD' => ?_) (fun W' hk => h W' ?_)⟩⟩
    · exact (World.putObj_heap_other (fun e => hn.1 (by subst e; exact hD'))).trans (hd D' (by simp [hD']))
    · exact ((keep_putObj W D _).mono (by simp)).trans hk (fun _ hy _ => List.mem_cons_of_mem _ hy)
/-- What the rounds use up. -/
def muR (a f : Value) : Nat := 2 * (256 - (intOf a).toNat) + (if intOf f = 0 then 0 else 1)
theorem muR_less {all fresh all2 f2 : Nat} (h0 : fresh ≠ 0) (h1 : all < 256) (h2 : all2 < 256) (hm : f2 ≠ 0 → all < all2) (hle : all ≤ all2) : muR (.int .u32 (all2 : Int)) (.int .u32 (f2 : Int)) < muR (.int .u32 (all : Int)) (.int .u32 (fresh : Int)) := by
  show 2 * (256 - ((all2 : Nat) : Int).toNat) + (if ((f2 : Nat) : Int) = 0 then 0 else 1) < 2 * (256 - ((all : Nat) : Int).toNat) + (if ((fresh : Nat) : Int) = 0 then 0 else 1)
  rw [if_neg (show ¬ (fresh : Int) = 0 by omega), Int.toNat_natCast, Int.toNat_natCast]
  split
  · omega
  · have := hm (by omega)
    omega
set_option maxRecDepth 100000 in
set_option maxHeartbeats 4000000 in
theorem greach_yes (v : ImgV) (x : Img) (es : List Eg) (s : Nat) (w : World) (hTb : Tab w) (h : ImgAt w v x) (hr : (chkImg x).2 = 0) (hes : EgsOf x es) (hs : s < x.modes.length) :
    Calls Tryd.prog 46 #[.agg (imgCells v x).toArray, .int .i64 (s : Int)] w (RetSet w (fun a => Gets es s a)) := by
  have hM8 := (right_of hr).nm.2
  have HFE : Hid (∀ fresh v, (foundN x (bitsL fresh)).testBit v = true ↔ ∃ e ∈ es, e.v = v ∧ fresh.testBit e.u = true) := fun fresh v => found_es hr hes fresh v
  have HEV : Hid (∀ a, Gets es s a → a < x.modes.length) := fun a h => by
    obtain ⟨p, hp⟩ := h
    exact (way_in hs (fun e he => (egs_ends hr hes e he).2) hp).1
  rw [← callsIn_wide (n := 9)]
  refine callsIn_of_wp_marks Tryd.func46 rfl trivial ?_ rfl
  simp only [Tryd.ntmps46, List.size_toArray, List.length_cons, List.length_nil, Nat.reduceAdd, Nat.reduceSub, Array.replicate_succ, Array.replicate_zero, List.push_toArray, List.append_toArray, List.nil_append, List.cons_append]
  obtain ⟨W0, hW0⟩ : ∃ W0, w.alloc (.cells (imgCells v x).toArray 26) = W0 := ⟨_, rfl⟩
  have b0 : Blk W0 w.heap.size 26 (imgCells v x).toArray := by rw [← hW0]; exact img_box w v x
  have K0 : Keep [] w W0 := by rw [← hW0]; exact (Keep.refl [] w).alloc _
  have c2 := img_c2 b0
  have HTB := Lib.hid (hTb.keep0 K0)
  have HI := Lib.hid (h.keep0 K0)
  have HB0 := Lib.hid b0
  have HIC : Hid ((imgCells v x).length = 4) := show _ = _ from rfl
  have HK0 := Lib.hid K0
  have HW := Lib.hid hW0
  have HM8 := Lib.hid hM8
  have HS := Lib.hid hs
  have q0 : decide ((s : Int) < 0) = false := decide_eq_false (by omega)
  have q1 : decide ((x.modes.length : Int) ≤ (s : Int)) = false := decide_eq_false (by omega)
  have q1n : decide (x.modes.length ≤ s) = false := decide_eq_false (by omega)
  have HSO : Hid (SetOk es s (bitN (s : Int)) (bitN (s : Int))) := by
    have h1 := fun a => @bitN_iff (s : Int) a (by omega)
    refine ⟨(h1 s).2 rfl, fun a ha => ?_, fun a ha => ha, fun e _ hu hn => by rw [hu] at hn; cases hn⟩
    obtain rfl : s = a := by have := (h1 a).1 ha; omega
    exact ⟨[], .nil⟩
  have HBL := Lib.hid (bitN_lt (s : Int))
  have HNX := fun (m : Int) W => Lib.hid (next_any v x m W)
  have HNS := fun (m : Int) Bi Bm W hx h1 h2 h3 h4 => next1_seq 6 v x m Bi Bm W hx h1 h2 h3 h4
  have HNB : Hid (∀ Bi Bm k, k ∈ nextB v x Bi Bm → k = Bi ∨ k = Bm ∨ k < W0.heap.size) := fun Bi Bm k hk => nextB_mem (h.keep0 K0) hk
  clear hTb h hr hes hM8 b0 K0 hW0 hs
  generalize hil : imgCells v x = il at *
  gi_wp2_with (first
    | rw [HW.out]
    | (refine ⟨trivial, ?_⟩; gi_at_call 63; refine (callsIn_wide.2 (mof_any (s : Int) _ _ (by go_simp))).mono ?_; rintro e w1 ⟨rfl, rfl⟩))
  obtain ⟨W1, hW1⟩ : ∃ W1, (W0.alloc (.cells #[.int .i64 (s : Int)] 3)).alloc (.cells #[.int .i64 (s : Int)] 3) = W1 := ⟨_, rfl⟩
  have KW1 : Keep [] W0 W1 := by rw [← hW1]; exact ((Keep.refl [] W0).alloc _).alloc _
  rw [hW1]
  clear hW1
  refine wpIn_loop (fun a' wr => ∃ (all fresh : Nat) (Ds : List Nat) (u7 u8 u9 u25 u26 u27 u28 u30 u31 u32 u35 u36 u37 u38 u39 u40 u41 u42 u43 : Value), (SetOk es s all fresh ∧ all < 256 ∧ fresh < 4294967296 ∧ Ds.Nodup ∧ (∀ D ∈ Ds, W0.heap.size ≤ D ∧ wr.heap[D]? = some (.deferred (some []))) ∧ Keep [] W0 wr) ∧
    a' = { tmps := #[.agg il.toArray, .int .i64 (s : Int), .pointer (some ⟨w.heap.size, 0, none⟩), undef, .int .u32 0, .int .u32 (all : Int), .int .u32 (fresh : Int), u7, u8, u9, .int .i64 (s : Int), .bool false, .bool false, .int .i64 (s : Int), .pointer (some ⟨w.heap.size, 2, none⟩), .slice v.ma x.modes.length v.mc, .int .i64 (x.modes.length : Int), .bool false, .bool false, .int .i64 (s : Int), .slice (some ⟨W0.heap.size, 0, none⟩) 1 1, .int .u32 (bitN (s : Int) : Int), .int .i64 (s : Int), .slice (some ⟨W0.heap.size + 1, 0, none⟩) 1 1, .int .u32 (bitN (s : Int) : Int), u25, u26, u27, u28, undef, u30, u31, u32, undef, undef, u35, u36, u37, u38, u39, u40, u41, u42, u43, undef], defers := marksOf Ds }) (fun a' _ => muR (a'.tmps.getD 5 undef) (a'.tmps.getD 6 undef)) ?start ?round
  case start => exact ⟨bitN (s : Int), bitN (s : Int), [], undef, undef, undef, undef, undef, undef, undef, undef, undef, undef, undef, undef, undef, undef, undef, undef, undef, undef, undef, ⟨HSO.out, set_lt8 HM8.out (fun a ha => HEV.out a (HSO.out.yes a ha)), HBL.out, List.nodup_nil, fun D hD => absurd hD (by simp), KW1⟩, rfl⟩
  case round =>
    clear KW1
    rintro a' wr ⟨all, fresh, Ds, u7, u8, u9, u25, u26, u27, u28, u30, u31, u32, u35, u36, u37, u38, u39, u40, u41, u42, u43, ⟨hso, hal, hfl, hnd, hds, hK⟩, rfl⟩
    by_cases hf0 : fresh = 0
    · subst hf0
      have HR := Lib.hid (fun a => setOk_end hso a)
      have HKW := Lib.hid (HK0.out.then hK)
      have HDS := Lib.hid hds
      have HND := Lib.hid hnd
      clear hso hK hds hnd
      gi_wp2
      refine leavesM_marks Ds wr HND.out (fun D hD => (HDS.out D hD).2) (fun W' hk => ?_)
      have kW := HKW.out.trans hk (fun y hy hlt => by
        exfalso
        have h1 := (HDS.out y hy).1
        have h2 := HB0.out.lt
        omega)
      exact ⟨_, by simp [results, Tryd.results46, go_sem], all, rfl, by omega, fun a _ => HR.out a, kW⟩
    · have hn0 : ((fresh : Int) != 0) = true := by simp; exact hf0
      have hn1 : decide ((fresh : Int) = 0) = false := decide_eq_false (by omega)
      have hn2 : decide (fresh = 0) = false := decide_eq_false hf0
      have HDS := Lib.hid hds
      have HND := Lib.hid hnd
      have HSO1 := Lib.hid hso
      clear hds hnd hso
      gi_wp2_with (first
        | (refine ⟨trivial, ?_⟩; gi_at_call 47; refine (callsIn_wide.2 (maskAll_any fresh _)).mono ?_; rintro e W3 ⟨rfl, hW3⟩))
      have k3 : Keep [] wr W3 := by rw [← hW3]; exact ((Keep.refl [] wr).alloc _).alloc _
      have d7 : Blk W3 wr.heap.size 50 #[.int .u32 0] := by rw [← hW3]; exact (Blk.new _ _ _).alloc _
      have d28 : Blk W3 (wr.heap.size + 1) 50 #[.int .u32 (fresh : Int)] := by rw [← hW3]; exact Blk.new1 _ _ _ _
      have sz3 : W3.heap.size = wr.heap.size + 2 := by rw [← hW3]; simp
      have K3 := hK.then k3
      have HT3 := Lib.hid (HTB.out.keep0 K3)
      have hT3 := HT3.out
      have hz0 : w.heap.size < W0.heap.size := HB0.out.lt
      have hzr := hK.size
      have hzt := HTB.out.1
      clear hW3
      refine wpIn_rangeFunc_ownH (F := Fence.wide) (n := 9) (ps := #[29]) rfl (by omega) (gf := 66) (lb := #[.pointer (some ⟨wr.heap.size + 1, 0, none⟩)]) rfl trivial (enters_of Tryd.func66 (by kernel_rfl) rfl)
        (maskAll1_stops 8 fresh (wr.heap.size + 1) W3 (by omega) d28 hfl hT3) Same.trans (Same.turn (by simp; omega)) (Below.refl _ _) (fun _ => rfl)
        (fun pre W => Blk W wr.heap.size 50 #[.int .u32 (foundN x pre : Int)] ∧ Keep [wr.heap.size] W3 W)
        (fun _ _ _ => False)
        ?hI ?hIx ⟨d7, Keep.refl _ _⟩
        (fun m a' _ => a' = { tmps := #[.agg il.toArray, .int .i64 (s : Int), .pointer (some ⟨w.heap.size, 0, none⟩), undef, .int .u32 0, .int .u32 (all : Int), .int .u32 (fresh : Int), .pointer (some ⟨wr.heap.size, 0, none⟩), .int .i64 (m : Int), u9, .int .i64 (s : Int), .bool false, .bool false, .int .i64 (s : Int), .pointer (some ⟨w.heap.size, 2, none⟩), .slice v.ma x.modes.length v.mc, .int .i64 (x.modes.length : Int), .bool false, .bool false, .int .i64 (s : Int), .slice (some ⟨W0.heap.size, 0, none⟩) 1 1, .int .u32 (bitN (s : Int) : Int), .int .i64 (s : Int), .slice (some ⟨W0.heap.size + 1, 0, none⟩) 1 1, .int .u32 (bitN (s : Int) : Int), .int .u32 (fresh : Int), .bool true, .int .u32 (fresh : Int), .func (.func 66) #[] #[.pointer (some ⟨wr.heap.size + 1, 0, none⟩)], .int .i64 (m : Int), u30, u31, u32, undef, undef, u35, u36, u37, u38, u39, u40, u41, u42, u43, undef], defers := [] }) ?hAx ?assign ?body ?done ?stop
      case hI =>
        intro pre X Y row hs hg hr
        exact ⟨blk_own (β := Unit) _ _ (fun _ => _) () X Y row hs.1 hg hr, keep_own (β := Unit) (Nat.le_refl _) () X Y row hs.2 hg hr⟩
      case hIx => exact fun _ _ _ _ _ hs _ _ => hs
      case hAx => exact fun _ _ _ _ _ _ hs _ _ => hs
      case assign =>
        rintro l pre m W K hi hKK
        simp only [encN]
        gi_wp2
        exact hKK _ _ (KeepsFrom.refl _ _) (Same.refl _ _) hi rfl
      case body =>
        rintro l pre m a' W hl ⟨r, hr⟩ ⟨hb, hKW⟩ rfl hlt
        have KW : Keep [] W0 W := K3.trans hKW (fun y hy hlt => by simp at hy; omega)
        have HIM := Lib.hid ((HB0.out.keep0 KW).cellsAt)
        have hzW := hKW.size
        gi_wp2_with (first
          | (refine wpListIn_agg rfl 26 (.tmp 2) rfl rfl (cs := il) (by rw [HIC.out]; exact agg_image) HIM.out ?_)
          | (refine ⟨trivial, ?_⟩; gi_at_call 64; refine ((callsIn_wide.2 (HNX (m : Int) _).out).inRound l).mono ?_; rintro e V1 ⟨rfl, hV1⟩))
        have kV1 : Keep [] W V1 := by rw [← hV1]; exact ((Keep.refl [] W).alloc _).alloc _
        have bI : Blk V1 W.heap.size 26 il.toArray := by rw [← hV1]; exact (Blk.new _ _ _).alloc _
        have bM : Blk V1 (W.heap.size + 1) 3 #[.int .i64 (m : Int)] := by rw [← hV1]; exact Blk.new1 _ _ _ _
        have szV : V1.heap.size = W.heap.size + 2 := by rw [← hV1]; simp
        have hr' : V1.heap[l]? = some (.loop r) := (kV1.block l (Array.getElem?_eq_some_iff.1 hr).1 (by simp)).trans hr
        have hb1 := hb.keep0 kV1
        have hIV := HI.out.keep0 (KW.then kV1)
        have hsq := HNS (m : Int) W.heap.size (W.heap.size + 1) V1 hIV (by omega) (by omega) bI bM
        have hNB : Hid (∀ k ∈ nextB v x W.heap.size (W.heap.size + 1), k < V1.heap.size ∧ k ≠ wr.heap.size) := fun k hk => by
          rcases HNB.out _ _ k hk with rfl | rfl | h <;> omega
        have HFS := Lib.hid (foundN_snoc x pre m)
        have HFL := Lib.hid (foundN_lt x pre)
        have HTW := Lib.hid hT3.1
        clear hV1 hIV bI bM
        generalize foundN x pre = f0 at *
        refine wpIn_rangeFunc_ownN (l₀ := l) (r₀ := r) rfl hr' (by omega) (gf := 82) (lb := #[.pointer (some ⟨W.heap.size, 0, none⟩), .pointer (some ⟨W.heap.size + 1, 0, none⟩)]) rfl trivial (enters_of Tryd.func82 (by kernel_rfl) rfl)
          (hsq.stops.inRound l) Same.trans (Same.turn (fun k hk => (hNB.out k hk).1)) (Below.refl _ _) (fun _ => rfl)
          (fun pre' W' => Blk W' wr.heap.size 50 #[.int .u32 (foundIn f0 pre' : Int)] ∧ Keep [wr.heap.size] V1 W')
          (fun _ _ _ => False)
          ?hI2 ?hIx2 ⟨hb1, Keep.refl _ _⟩
          (fun p a'' _ => a'' = { tmps := #[.agg il.toArray, .int .i64 (s : Int), .pointer (some ⟨w.heap.size, 0, none⟩), undef, .int .u32 0, .int .u32 (all : Int), .int .u32 (fresh : Int), .pointer (some ⟨wr.heap.size, 0, none⟩), .int .i64 (m : Int), .int .i64 p.1, .int .i64 (s : Int), .bool false, .bool false, .int .i64 (s : Int), .pointer (some ⟨w.heap.size, 2, none⟩), .slice v.ma x.modes.length v.mc, .int .i64 (x.modes.length : Int), .bool false, .bool false, .int .i64 (s : Int), .slice (some ⟨W0.heap.size, 0, none⟩) 1 1, .int .u32 (bitN (s : Int) : Int), .int .i64 (s : Int), .slice (some ⟨W0.heap.size + 1, 0, none⟩) 1 1, .int .u32 (bitN (s : Int) : Int), .int .u32 (fresh : Int), .bool true, .int .u32 (fresh : Int), .func (.func 66) #[] #[.pointer (some ⟨wr.heap.size + 1, 0, none⟩)], .int .i64 (m : Int), .agg il.toArray, .int .i64 (m : Int), .func (.func 82) #[] #[.pointer (some ⟨W.heap.size, 0, none⟩), .pointer (some ⟨W.heap.size + 1, 0, none⟩)], .int .i64 p.1, .int .i64 p.2, u35, u36, u37, u38, u39, u40, u41, u42, u43, undef], defers := [] })
          (fun _ _ _ _ _ _ hs _ _ => hs) ?assign2 ?body2 ?done2 ?stop2
        case hI2 =>
          intro pre' X Y row hs hg hr
          exact ⟨blk_own (β := Unit) _ _ (fun _ => _) () X Y row hs.1 hg hr, keep_own (β := Unit) (Nat.le_refl _) () X Y row hs.2 hg hr⟩
        case hIx2 => exact fun _ _ _ _ _ hs _ _ => hs
        case assign2 =>
          rintro l2 pre' p W' K hi2 hK2
          simp only [encPII]
          gi_wp2
          exact hK2 _ _ (KeepsFrom.refl _ _) (Same.refl _ _) hi2 rfl
        case body2 =>
          rintro l2 pre' p a'' W' _ _ ⟨hL2, hK2⟩ rfl hlt2
          have HL2 := Lib.hid hL2
          have HK2 := Lib.hid hK2
          have eL := hL2.cell 0
          have fL := hL2.frozen 0
          simp at eL
          have HSN := Lib.hid (foundIn_snoc f0 pre' p)
          have hf1 := foundIn_lt HFL.out pre'
          have HWI := fun W => Lib.hid (with_any (foundIn f0 pre') p.1 W hf1)
          generalize foundIn f0 pre' = f1 at *
          generalize p.1 = to_ at *
          clear hL2 hK2
          gi_wp2_with (refine ⟨trivial, ?_⟩; gi_at_call 65; refine ((callsIn_wide.2 (HWI _).out).inRound l2).mono ?_; rintro e w7 ⟨rfl, rfl⟩)
          have kU : Keep [wr.heap.size] W' (W'.setCell ⟨wr.heap.size, 0, none⟩ (.int .u32 ((f1 ||| bitN to_ : Nat) : Int))) := keep_set _ _ _ _
          refine ⟨kU.from (fun y hy => .inr (by simp at hy; subst hy; exact ⟨_, _, _, HL2.out⟩)), Same.keep kU (fun y hy => ⟨Nat.lt_of_lt_of_le (hNB.out y hy).1 HK2.out.size, by simpa using (hNB.out y hy).2⟩), ?_, HK2.out.trans kU (by simp)⟩
          rw [HSN.out]
          exact HL2.out.set_ 0 _
        case done2 =>
          rintro us W' rfl ⟨hL2, hK2⟩
          have kk : Keep [wr.heap.size] W W' := (kV1.mono (by simp)).trans hK2 (by simp)
          gi_wp2
          refine ⟨kk.from (fun y hy => .inl (by simp at hy; omega)), Same.keep kk (fun y hy => ⟨by simp only [List.mem_cons, List.not_mem_nil, or_false] at hy; rcases hy with rfl | rfl <;> omega, by simp only [List.mem_cons, List.not_mem_nil, or_false] at hy ⊢; rcases hy with rfl | rfl <;> omega⟩), ?_, hKW.trans kk (by simp)⟩
          rw [HFS.out]
          exact hL2
        case stop2 =>
          rintro c pre' W' hpre' hF
          exact hF.elim
      case done =>
        rintro D ys W hD rfl ⟨hb, hKW⟩ hD2
        have KW : Keep [] W0 W := K3.trans hKW (fun y hy hlt => by simp at hy; omega)
        have hc := hb.cell 0
        simp at hc
        have hfl2 := foundN_lt x (bitsL fresh)
        have HFB := Lib.hid (fun a => HFE.out fresh a)
        generalize foundN x (bitsL fresh) = fo at *
        have HAN : Hid (bits .andNot .u32 (fo : Int) (all : Int) = (freshOf fo all : Nat)) := u32_andNot_nat fo all hfl2 (by omega)
        have hb2 := fun a => @freshOf_bit fo all (by omega) hfl2 a
        have hf2 : freshOf fo all < 4294967296 := Nat.lt_of_le_of_lt Nat.and_le_left hfl2
        generalize freshOf fo all = f2 at *
        have HOR : Hid (bits .or .u32 (all : Int) (f2 : Int) = ((all ||| f2 : Nat) : Int)) := u32_or_nat all f2 (by omega) hf2
        have hso2 : SetOk es s (all ||| f2) f2 := setOk_step HSO1.out HFB.out hb2 (fun a => by rw [Nat.testBit_or])
        have hal2 : all ||| f2 < 256 := set_lt8 HM8.out (fun a ha => HEV.out a (hso2.yes a ha))
        have hmo : f2 ≠ 0 → all < all ||| f2 := fun h0 => or_more h0 (fun a ha => by
          have := hb2 a
          rw [ha] at this
          cases h : all.testBit a with
          | false => rfl
          | true => rw [h] at this; simp at this)
        have HGO := Lib.hid (And.intro hso2 (And.intro hal2 hmo))
        have HKW2 := Lib.hid KW
        have HDD : Hid ((D :: Ds).Nodup ∧ ∀ D' ∈ D :: Ds, W0.heap.size ≤ D' ∧ W.heap[D']? = some (.deferred (some []))) := by
          have hlt : ∀ D' ∈ Ds, D' < wr.heap.size := fun D' hD' => (Array.getElem?_eq_some_iff.1 (HDS.out D' hD').2).1
          refine ⟨List.nodup_cons.2 ⟨fun h => by have := hlt D h; omega, HND.out⟩, fun D' hD' => ?_⟩
          rcases List.mem_cons.1 hD' with rfl | h
          · exact ⟨by omega, hD2⟩
          · have h1 := hlt D' h
            refine ⟨(HDS.out D' h).1, ?_⟩
            rw [hKW.block D' (by omega) (by simp; omega), k3.block D' h1 (by simp)]
            exact (HDS.out D' h).2
        clear hso2 hal2 hmo hb2 hb hKW hD2 KW HFB
        gi_wp2_with fail
        simp only [HAN.out, HOR.out]
        obtain ⟨hso2, hal2, hmo⟩ := HGO.out
        refine ⟨⟨all ||| f2, f2, D :: Ds, _, _, _, _, _, _, _, _, _, _, _, _, _, _, _, _, _, _, _, ⟨hso2, hal2, hf2, HDD.out.1, HDD.out.2, HKW2.out⟩, rfl⟩, ?_⟩
        exact muR_less hf0 hal hal2 hmo Nat.left_le_or
      case stop =>
        rintro D c pre W _ hpre hF _
        exact hF.elim
end Go.Proofs.YteocldlglklnjaaDoor
