/- The rows of a sheet (sheet.Modes, Edges, Loads) as iterators that hand on rows of texts. Condition: the table of math/bits lies where the program's text lays it, where loads are asked for. -/
import Derived.Test.YteocldlglklnjaaDoorRangeQ
import Derived.Test.YteocldlglklnjaaDoorShTexts
import Derived.Test.YteocldlglklnjaaDoorShLoad
import Derived.Test.YteocldlglklnjaaDoorCertC
import Derived.Test.YteocldlglklnjaaDoorWinF
import Derived.Test.YteocldlglklnjaaDoorRef19P
namespace Go.Proofs.YteocldlglklnjaaDoor
open Go.RowKit
attribute [local go_sem] Oper.semAt_some

theorem reads_blk {w : World} {g t : Nat} {l : List Value} (h : Blk w g t l.toArray) : Reads w 1 (some ⟨g, 0, none⟩) l.length l :=
  ⟨by omega, fun _ => ⟨g, 0, rfl, h.lt, fun j u hu => by rw [Nat.zero_add]; exact Blk.at_ (l := l) h hu⟩⟩
/-- A row of texts in memory, in a block of texts. -/
structure TxtAt (w : World) (A : Option Addr) (l : List ByteArray) : Prop where
  rd : Reads w 1 A l.length (strsV l)
  ty : 0 < l.length → ∃ b o cs fr, A = some ⟨b, o, none⟩ ∧ w.heap[b]? = some (.cells cs 9 fr)
theorem TxtAt.of_own {w : World} {base c : Nat} {A : Option Addr} {l : List ByteArray} (h : w.ownsRow base 9 1 (.slice A l.length c) l.length (strsV l)) : TxtAt w A l := by
  refine ⟨Reads.of_own h, fun h0 => ?_⟩
  rcases h.2 with ⟨e, h1⟩ | ⟨g, cap, cur, e, _, hh, _⟩
  · injection e with _ e2
    omega
  · injection e with e1
    exact ⟨g, 0, _, _, e1, hh⟩
theorem TxtAt.same {w w' : World} {A : Option Addr} {l : List ByteArray} (h : TxtAt w A l) (hz : w.heap.size ≤ w'.heap.size) (hk : ∀ (g : Nat) cs fr, w.heap[g]? = some (.cells cs 9 fr) → w'.heap[g]? = w.heap[g]?) : TxtAt w' A l := by
  refine ⟨⟨h.rd.1, fun h0 => ?_⟩, fun h0 => ?_⟩
  · obtain ⟨b, o, cs, fr, e, hb⟩ := h.ty h0
    obtain ⟨b', o', e', hb', hc⟩ := h.rd.2 h0
    rw [e] at e'
    cases e'
    exact ⟨b, o, e, by omega, fun j u hu => (World.cell?_of_block (a := ⟨b, o + j, none⟩) (hk b cs fr hb)).trans (hc j u hu)⟩
  · obtain ⟨b, o, cs, fr, e, hb⟩ := h.ty h0
    exact ⟨b, o, cs, fr, e, (hk b cs fr hb).trans hb⟩
theorem TxtAt.keep0 {w w' : World} {A : Option Addr} {l : List ByteArray} (h : TxtAt w A l) (k : Keep [] w w') : TxtAt w' A l :=
  h.same k.size (fun g cs fr hg => k.block g (Array.getElem?_eq_some_iff.1 hg).1 (by simp))
theorem TxtAt.kp {Us : List Nat} {B0 B2 : Nat} {w w' : World} {A : Option Addr} {l : List ByteArray} (h : TxtAt w A l) (k : KpU Us B0 B2 w w') (ht : 9 ∉ Us) : TxtAt w' A l :=
  h.same k.size (fun g cs fr hg => k.cells.2 g cs _ fr hg ht)
theorem TxtAt.own {A : Option Addr} {l : List ByteArray} {X Y : World} {row : Option Nat} (h : TxtAt X A l) (hg : X.grownBy Y row) (hr : ∀ r, row = some r → ∃ o : Obj, X.heap[r]? = some o ∧ o.isCells = false) : TxtAt Y A l :=
  h.same (Keep.of_grown hg).size (fun g cs fr hb => hg.block g (Array.getElem?_eq_some_iff.1 hb).1 (fun e => by
    obtain ⟨o, h1, h2⟩ := hr g e.symm
    rw [hb] at h1; cases h1; cases h2))
/-- A row of texts, as it is handed on. -/
def EncT {α : Type} (f : α → List ByteArray) (x : α) (W : World) (args : Array Value) : Prop := ∃ A cp, args = #[.slice A (f x).length cp] ∧ TxtAt W A (f x)
def txts (l : List Int) : List ByteArray := l.map textOf
theorem txts_len (l : List Int) : (txts l).length = l.length := by unfold txts; simp
abbrev UsS : List Nat := [55, 62]
/-- What is told of a mode's row: nothing, if there is no such task. -/
def mrow (x : Img) (m : Nat) (r : RowM) : List (List Int) :=
  if 0 ≤ r.task then (match x.tasks[r.task.toNat]? with | some t => [[(m : Int), r.task, r.block, r.resp, t.ded, t.ded - r.resp]] | none => []) else []
theorem mrow_yes {x : Img} {m i : Nat} {r : RowM} (h : r.task = (i : Int)) (hi : i < x.tasks.length) : mrow x m r = [[(m : Int), r.task, r.block, r.resp, x.tasks[i].ded, x.tasks[i].ded - r.resp]] := by
  unfold mrow
  rw [if_pos (by omega), h, Int.toNat_natCast, List.getElem?_eq_getElem hi]
theorem mrow_no {x : Img} {m : Nat} {r : RowM} (h : r.task < 0 ∨ (x.tasks.length : Int) ≤ r.task) : mrow x m r = [] := by
  unfold mrow
  split
  · rw [List.getElem?_eq_none (by omega)]
  · rfl
def modeF (x : Img) (p : List RowM × Nat) : List (List Int) := p.1.flatMap (mrow x p.2)
def modesL (x : Img) (c : Crt) : List (List Int) := c.modes.zipIdx.flatMap (modeF x)
/-- No number runs over. -/
def ResOk (x : Img) (c : Crt) : Prop := ∀ rs ∈ c.modes, ∀ r ∈ rs, ∀ i, (h : i < x.tasks.length) → r.task = (i : Int) → -9223372036854775808 ≤ x.tasks[i].ded - r.resp ∧ x.tasks[i].ded - r.resp ≤ 9223372036854775807

theorem smodes_any (v : ImgV) (x : Img) (vc : CrtV) (c : Crt) (w : World) : Calls Tryd.prog 12 #[.agg (imgCells v x).toArray, .agg (crtCells vc c).toArray] w fun e w' =>
    e = .returned (.func (.func 33) #[] #[.pointer (some ⟨w.heap.size + 1, 0, none⟩), .pointer (some ⟨w.heap.size, 0, none⟩)]) ∧ (w.alloc (.cells (imgCells v x).toArray 26)).alloc (.cells (crtCells vc c).toArray 30) = w' := by
  generalize (imgCells v x).toArray = cs
  generalize (crtCells vc c).toArray = cc
  go_enter Tryd.func12, Tryd.ntmps12
  go_wp2
  go_ret
  exact ⟨rfl, rfl⟩
theorem sedges_any (v : ImgV) (x : Img) (vc : CrtV) (c : Crt) (w : World) : Calls Tryd.prog 16 #[.agg (imgCells v x).toArray, .agg (crtCells vc c).toArray] w fun e w' =>
    e = .returned (.func (.func 36) #[] #[.pointer (some ⟨w.heap.size + 1, 0, none⟩), .pointer (some ⟨w.heap.size, 0, none⟩)]) ∧ (w.alloc (.cells (imgCells v x).toArray 26)).alloc (.cells (crtCells vc c).toArray 30) = w' := by
  generalize (imgCells v x).toArray = cs
  generalize (crtCells vc c).toArray = cc
  go_enter Tryd.func16, Tryd.ntmps16
  go_wp2
  go_ret
  exact ⟨rfl, rfl⟩
theorem sloads_any (v : ImgV) (x : Img) (w : World) : Calls Tryd.prog 17 #[.agg (imgCells v x).toArray] w fun e w' =>
    e = .returned (.func (.func 37) #[] #[.pointer (some ⟨w.heap.size, 0, none⟩)]) ∧ w.alloc (.cells (imgCells v x).toArray 26) = w' := by
  generalize (imgCells v x).toArray = cs
  go_enter Tryd.func17, Tryd.ntmps17
  go_wp2
  go_ret
  exact ⟨rfl, rfl⟩

set_option maxRecDepth 100000 in
set_option maxHeartbeats 4000000 in
theorem smodes1_seq (n : Nat) (v : ImgV) (x : Img) (vc : CrtV) (c : Crt) (w0 w : World) (hx : ImgAt w0 v x) (hc : CrtAt w0 vc c) (hov : ResOk x c) (hw0 : Below w0.heap.size w0 w) (Bc Bi : Nat) (hBc : Bc < w.heap.size) (hBi : Bi < w.heap.size)
    (hbc : Blk w Bc 30 (crtCells vc c).toArray) (hbi : Blk w Bi 26 (imgCells v x).toArray) :
    SeqQ Fence.wide n Tryd.prog LoN 33 #[.pointer (some ⟨Bc, 0, none⟩), .pointer (some ⟨Bi, 0, none⟩)] (EncT txts) (KpU UsS w0.heap.size (w.heap.size + 2)) (modesL x c) w := by
  intro l J Jx W hW hge hJ hJx hY h0
  have hB0 : w0.heap.size ≤ W.heap.size := by have := hw0.size; omega
  have hlow : Below w0.heap.size w0 W := hw0.trans (hW.mono hw0.size)
  have hR0 : ∀ m pre (y : List Int) W1 A cp, J pre W1 → pre ++ [y] <+: modesL x c → TxtAt W1 A (txts y) → YieldAt Fence.wide m Tryd.prog l #[.slice A y.length cp] W1 fun e W' =>
      (e = .returned (.bool true) ∧ J (pre ++ [y]) W' ∧ KpU UsS w0.heap.size (w.heap.size + 2) W1 W') ∨ (e = .returned (.bool false) ∧ Jx (pre ++ [y]) W' ∧ KpU UsS w0.heap.size (w.heap.size + 2) W1 W') := fun m pre y W1 A cp hj hp hr => yieldAt_any open_wide (hY pre y W1 _ hj hp ⟨A, cp, by rw [txts_len], hr⟩)
  clear hY
  have s0 : Blk W Bc 30 (crtCells vc c).toArray := (hW.block Bc hBc).trans hbc
  have t0 : Blk W Bi 26 (imgCells v x).toArray := (hW.block Bi hBi).trans hbi
  have HX := Lib.hid hx
  have HC0 : ∀ w', Blk w' Bc 30 (crtCells vc c).toArray → w'.cell? ⟨Bc, 0, none⟩ = some (.slice vc.ma c.modes.length vc.mc) := fun w' h => by rw [h.cell]; rfl
  have HI0 : ∀ w', Blk w' Bi 26 (imgCells v x).toArray → w'.cell? ⟨Bi, 1, none⟩ = some (.slice v.ta x.tasks.length v.tc) := fun w' h => by rw [h.cell]; rfl
  have HLO : Hid (∀ w', Below w0.heap.size w0 w' → Keep [] w0 w') := fun w' h => keepB h
  have HMO : Hid (0 < c.modes.length → _) := fun h => hc.mode h
  have c0 := HC0 W s0
  have HLR := Lib.hid hc.lr
  have HLM := Lib.hid hc.lm
  have HOV := Lib.hid hov
  have HLX := Lib.hid hx.lt
  have HMS : Hid (modesL x c = c.modes.zipIdx.flatMap (modeF x)) := show _ = _ from rfl
  clear hx hc hbc hbi hov
  generalize (crtCells vc c).toArray = cc at *
  generalize (imgCells v x).toArray = cs at *
  rw [callsIn_wide, ← callsIn_wide (n := 9)]
  refine callsIn_of_wp Tryd.func33 rfl trivial ?_ rfl
  simp only [Tryd.ntmps33, List.size_toArray, List.length_cons, List.length_nil, Nat.reduceAdd, Nat.reduceSub, Array.replicate_succ, Array.replicate_zero, List.push_toArray, List.append_toArray, List.nil_append, List.cons_append]
  gi_wp2
  gi_loopw [12] (fun vi wr => ∃ k : Nat, k ≤ c.modes.length ∧ vi = .int .i64 (k : Int) ∧ J ((c.modes.zipIdx.take k).flatMap (modeF x)) wr ∧ Blk wr Bc 30 cc ∧ Blk wr Bi 26 cs ∧ KpU UsS w0.heap.size (w.heap.size + 2) W wr) (fun i _ => c.modes.length - (intOf i).toNat)
  case atStart => exact ⟨0, Nat.zero_le _, rfl, by simpa using h0, s0, t0, KpU.refl _⟩
  case round =>
    clear s0 t0 h0 c0
    obtain ⟨k, hk, rfl, hj, hbr, hbi, hkr⟩ := hrel
    have hlm := HLM.out
    by_cases hlt : k < c.modes.length
    · have HK := HLO.out wr (hlow.trans hkr.below)
      obtain ⟨bm, om, hma, hbm, hmo⟩ := HMO.out (by omega)
      obtain ⟨A, cp, hmc, hrd⟩ := hmo k hlt
      clear hmo
      have hmc := (HK.cell (p := ⟨bm, om + k, none⟩) hbm (by simp)).trans hmc
      have hrd := Lib.hid hrd
      have hlr := HLR.out _ (List.getElem_mem hlt)
      have hzl : k < c.modes.zipIdx.length := by simpa using hlt
      have hzk : c.modes.zipIdx[k] = (c.modes[k], k) := by simp
      have hsuc := Lib.hid (take_flat (modeF x) c.modes.zipIdx k hzl)
      have hM := Lib.hid (HMS.out.trans (drop_flat (modeF x) c.modes.zipIdx k hzl))
      rw [hzk] at hsuc hM
      have HOVk := Lib.hid (HOV.out _ (List.getElem_mem hlt))
      simp only [modeF] at hsuc hM
      obtain ⟨TL, hTL⟩ : ∃ TL, (c.modes.zipIdx.drop (k + 1)).flatMap (modeF x) = TL := ⟨_, rfl⟩
      rw [hTL] at hM
      clear hTL hzk
      generalize c.modes[k] = R at *
      obtain ⟨pk, hpk⟩ : ∃ pk, (c.modes.zipIdx.take k).flatMap (modeF x) = pk := ⟨_, rfl⟩
      rw [hpk] at hj hsuc hM
      rw [hma] at *
      have p0 : (0 : Int) ≤ (k : Int) := by omega
      have p1 : (k : Int) < (c.modes.length : Int) := by omega
      gi_wp2
      generalize wr = wo at *
      gi_loopw [19] (fun vi wr => ∃ j : Nat, j ≤ R.length ∧ vi = .int .i64 (j : Int) ∧ J (pk ++ (R.take j).flatMap (mrow x k)) wr ∧ Blk wr Bc 30 cc ∧ Blk wr Bi 26 cs ∧ KpU UsS w0.heap.size (w.heap.size + 2) W wr) (fun i _ => R.length - (intOf i).toNat)
      case atStart => exact ⟨0, Nat.zero_le _, rfl, by simpa using hj, hbr, hbi, hkr⟩
      case round =>
        clear hj hbr hbi hkr HK hmc
        obtain ⟨j, hjl, rfl, hj, hbr, hbi, hkr⟩ := hrel
        by_cases hlj : j < R.length
        · have HK := HLO.out wr (hlow.trans hkr.below)
          obtain ⟨br, orr, hA, hbw, hrc⟩ := (hrd.out.keep0 HK).elems rfl (fun _ _ => rfl) (by omega)
          have hq := Lib.hid (hrc j hlj)
          have hMj : modesL x c = (pk ++ (R.take j).flatMap (mrow x k)) ++ (mrow x k R[j] ++ ((R.drop (j + 1)).flatMap (mrow x k) ++ TL)) := by
            rw [hM.out, drop_flat (mrow x k) R j hlj]
            simp only [List.append_assoc]
          have hsj : pk ++ (R.take (j + 1)).flatMap (mrow x k) = (pk ++ (R.take j).flatMap (mrow x k)) ++ mrow x k R[j] := by
            rw [take_flat (mrow x k) R j hlj, ← List.append_assoc]
          have hq : Hid (CellsAt wr br (orr + j * 3) [.int .i64 R[j].task, .int .i64 R[j].block, .int .i64 R[j].resp]) := hq
          have HOVj := HOVk.out _ (List.getElem_mem hlj)
          generalize (R.drop (j + 1)).flatMap (mrow x k) ++ TL = TL2 at *
          generalize pk ++ (R.take j).flatMap (mrow x k) = q at *
          have hmy := fun (i : Nat) (h : R[j].task = (i : Int)) (hi : i < x.tasks.length) => mrow_yes (m := k) h hi
          have hmn := fun (h : R[j].task < 0 ∨ (x.tasks.length : Int) ≤ R[j].task) => mrow_no (m := k) h
          generalize mrow x k R[j] = MR at *
          generalize R[j].task = ra at *
          generalize R[j].block = rb at *
          generalize R[j].resp = rc at *
          have HMJ := Lib.hid hMj
          have HSJ := Lib.hid hsj
          have hjl0 : (j : Int) < (R.length : Int) := by omega
          have hj0 : (0 : Int) ≤ (j : Int) := by omega
          clear hrc hMj hsj
          obtain ⟨V, hV⟩ : ∃ V, wr.alloc (.cells #[.int .i64 ra, .int .i64 rb, .int .i64 rc] 36) = V := ⟨_, rfl⟩
          have KV : Keep [] wr V := by rw [← hV]; exact (Keep.refl _ wr).alloc _
          have dV : Blk V wr.heap.size 36 #[.int .i64 ra, .int .i64 rb, .int .i64 rc] := by rw [← hV]; exact Blk.new _ _ _
          have jV := hJ.k0 hj KV
          have kV := hkr.step KV (by simp) hB0
          have bV := hbr.keep0 KV
          have iV := hbi.keep0 KV
          have cI := HI0 V iV
          have HV := Lib.hid hV
          clear hV
          have q0 := dV.cell 0
          have q1 := dV.cell 1
          have q2 := dV.cell 2
          simp at q0 q1 q2
          rw [hA] at *
          have hcc : ra < 0 ∨ (0 ≤ ra ∧ (x.tasks.length : Int) ≤ ra) ∨ (0 ≤ ra ∧ ra < (x.tasks.length : Int)) := by omega
          rcases hcc with hra | ⟨hra, hra2⟩ | ⟨hra, hra2⟩
          · have hm0 := hmn (.inl hra)
            clear hmy hmn
            gi_wp2_with (first | rw [HV.out] | (refine wpListIn_agg rfl 36 (.tmp 21) rfl rfl (cs := [.int .i64 ra, .int .i64 rb, .int .i64 rc]) agg_row hq.out ?_))
            go_roundw
            case rel => exact ⟨j + 1, by omega, by go_num, by rw [HSJ.out, hm0, List.append_nil]; exact jV, bV, iV, kV⟩
            case measure => simp [intOf] <;> omega
          · have hm0 := hmn (.inr hra2)
            clear hmy hmn
            gi_wp2_with (first | rw [HV.out] | (refine wpListIn_agg rfl 36 (.tmp 21) rfl rfl (cs := [.int .i64 ra, .int .i64 rb, .int .i64 rc]) agg_row hq.out ?_))
            go_roundw
            case rel => exact ⟨j + 1, by omega, by go_num, by rw [HSJ.out, hm0, List.append_nil]; exact jV, bV, iV, kV⟩
            case measure => simp [intOf] <;> omega
          · obtain ⟨i, rfl⟩ := Int.eq_ofNat_of_zero_le hra
            have hi : i < x.tasks.length := by omega
            have hm1 := hmy i rfl hi
            have hwr := HOVj i hi rfl
            obtain ⟨bt, ot, hta, hbt, htc⟩ := HX.out.task (by omega)
            have hct := (((htc i hi).keep0 HK hbt).keep0 KV (by have := HK.size; omega)) 1 (.int .i64 x.tasks[i].ded) rfl
            rw [hta] at cI
            generalize x.tasks[i].ded = td at *
            clear hmy hmn HOVj htc
            gi_wp2_with (first | rw [HV.out] | (refine wpListIn_agg rfl 36 (.tmp 21) rfl rfl (cs := [.int .i64 (i : Int), .int .i64 rb, .int .i64 rc]) agg_row hq.out ?_))
            obtain ⟨V2, hV2⟩ : ∃ V2, V.alloc (.cells #[.int .i64 (k : Int), .int .i64 (i : Int), .int .i64 rb, .int .i64 rc, .int .i64 td, .int .i64 (td - rc)] 3) = V2 := ⟨_, rfl⟩
            have KV2 : Keep [] V V2 := by rw [← hV2]; exact (Keep.refl _ V).alloc _
            have dV2 : Blk V2 V.heap.size 3 (iv [(k : Int), (i : Int), rb, rc, td, td - rc]).toArray := by rw [← hV2]; exact Blk.new _ _ _
            have HTX : Hid (Calls Tryd.prog 34 #[.slice (some ⟨V.heap.size, 0, none⟩) 6 6] V2 (RetTs V2 ([(k : Int), (i : Int), rb, rc, td, td - rc].map textOf))) := texts_any _ 6 [(k : Int), (i : Int), rb, rc, td, td - rc] V2 (reads_blk dV2) (by simp)
            have HV2 := Lib.hid hV2
            rw [HV2.out]
            refine ⟨trivial, ?_⟩
            gi_at_call 34
            refine (callsIn_wide.2 HTX.out).mono ?_
            rintro e w3 ⟨A3, c3, rfl, hown3, k3⟩
            have hr3 := TxtAt.of_own hown3
            have K3 := KV2.then k3
            have j3 := hJ.k0 jV K3
            have kk3 := kV.step K3 (by simp) hB0
            have b3 := bV.keep0 K3
            have i3 := iV.keep0 K3
            have hp3 : q ++ [[(k : Int), (i : Int), rb, rc, td, td - rc]] <+: modesL x c := by rw [HMJ.out, hm1]; exact ⟨TL2, by simp⟩
            have HP3 := Lib.hid hp3
            obtain ⟨fn, tmps, assign, body, hy, hR⟩ := hR0 8 q [(k : Int), (i : Int), rb, rc, td, td - rc] w3 A3 c3 j3 hp3 hr3
            clear hown3 k3 hp3 hr3
            simp only [List.length_map, List.length_cons, List.length_nil, Nat.zero_add, Nat.reduceAdd] at hy ⊢
            gi_wp2
            refine hR.mono ?_
            rintro e w4 (⟨rfl, j4, kr⟩ | ⟨rfl, jx, kr⟩)
            rotate_left
            · gi_wp2
              refine bodyPost_ret (results_none rfl _ _ _) rfl ?_
              exact ⟨⟨_, rfl⟩, .inr ⟨_, HP3.out, jx⟩⟩
            have k4 := kk3.trans kr
            have b4 := kr.blk b3 (by decide)
            have i4 := kr.blk i3 (by decide)
            clear hy hR
            gi_wp2
            go_roundw
            case rel => exact ⟨j + 1, by omega, by go_num, by rw [HSJ.out, hm1]; exact j4, b4, i4, k4⟩
            case measure => simp [intOf] <;> omega
        · obtain rfl : j = R.length := by omega
          gi_wp2
          go_roundw
          case rel => exact ⟨k + 1, by omega, by go_num, by rw [hsuc.out]; simpa using hj, hbr, hbi, hkr⟩
          case measure => simp [intOf] <;> omega
    · obtain rfl : k = c.modes.length := by omega
      gi_wp2
      go_end0
      refine ⟨⟨_, rfl⟩, .inl ?_⟩
      rw [HMS.out]
      rwa [List.take_of_length_le (by simp)] at hj

def edgeRow (p : (Int × Int) × Edg) : List Int := [p.2.frm, p.2.to, p.2.prot, p.1.1, p.1.2]
def edgesL (x : Img) (c : Crt) : List (List Int) := (c.edges.zip x.edges).map edgeRow
theorem edgesL_take (x : Img) (c : Crt) {k : Nat} (h1 : k < c.edges.length) (h2 : k < x.edges.length) : (edgesL x c).take (k + 1) = (edgesL x c).take k ++ [edgeRow (c.edges[k], x.edges[k])] := by
  unfold edgesL
  rw [List.take_succ_eq_append_getElem (by simp; omega)]
  simp
theorem edgesL_len (x : Img) (c : Crt) : (edgesL x c).length = min c.edges.length x.edges.length := by unfold edgesL; simp
set_option maxRecDepth 100000 in
set_option maxHeartbeats 4000000 in
theorem sedges1_seq (n : Nat) (v : ImgV) (x : Img) (vc : CrtV) (c : Crt) (w0 w : World) (hx : ImgAt w0 v x) (hc : CrtAt w0 vc c) (hw0 : Below w0.heap.size w0 w) (Bc Bi : Nat) (hBc : Bc < w.heap.size) (hBi : Bi < w.heap.size)
    (hbc : Blk w Bc 30 (crtCells vc c).toArray) (hbi : Blk w Bi 26 (imgCells v x).toArray) :
    SeqQ Fence.wide n Tryd.prog LoN 36 #[.pointer (some ⟨Bc, 0, none⟩), .pointer (some ⟨Bi, 0, none⟩)] (EncT txts) (KpU UsS w0.heap.size (w.heap.size + 2)) (edgesL x c) w := by
  intro l J Jx W hW hge hJ hJx hY h0
  have hB0 : w0.heap.size ≤ W.heap.size := by have := hw0.size; omega
  have hlow : Below w0.heap.size w0 W := hw0.trans (hW.mono hw0.size)
  have hR0 : ∀ m pre (y : List Int) W1 A cp, J pre W1 → pre ++ [y] <+: edgesL x c → TxtAt W1 A (txts y) → YieldAt Fence.wide m Tryd.prog l #[.slice A y.length cp] W1 fun e W' =>
      (e = .returned (.bool true) ∧ J (pre ++ [y]) W' ∧ KpU UsS w0.heap.size (w.heap.size + 2) W1 W') ∨ (e = .returned (.bool false) ∧ Jx (pre ++ [y]) W' ∧ KpU UsS w0.heap.size (w.heap.size + 2) W1 W') := fun m pre y W1 A cp hj hp hr => yieldAt_any open_wide (hY pre y W1 _ hj hp ⟨A, cp, by rw [txts_len], hr⟩)
  clear hY
  have s0 : Blk W Bc 30 (crtCells vc c).toArray := (hW.block Bc hBc).trans hbc
  have t0 : Blk W Bi 26 (imgCells v x).toArray := (hW.block Bi hBi).trans hbi
  have HX := Lib.hid hx
  have HCX := Lib.hid hc
  have HC0 : ∀ w', Blk w' Bc 30 (crtCells vc c).toArray → w'.cell? ⟨Bc, 1, none⟩ = some (.slice vc.ea c.edges.length vc.ec) := fun w' h => by rw [h.cell]; rfl
  have HI0 : ∀ w', Blk w' Bi 26 (imgCells v x).toArray → w'.cell? ⟨Bi, 3, none⟩ = some (.slice v.ea x.edges.length v.ec) := fun w' h => by rw [h.cell]; rfl
  have HLO : Hid (∀ w', Below w0.heap.size w0 w' → Keep [] w0 w') := fun w' h => keepB h
  have c0 := HC0 W s0
  have HLE := Lib.hid hc.le
  have HLX := Lib.hid hx.lt
  have HEL := Lib.hid (edgesL_len x c)
  have HEO := Lib.hid hx.ok
  clear hx hc hbc hbi
  generalize (crtCells vc c).toArray = cc at *
  generalize (imgCells v x).toArray = cs at *
  rw [callsIn_wide, ← callsIn_wide (n := 9)]
  refine callsIn_of_wp Tryd.func36 rfl trivial ?_ rfl
  simp only [Tryd.ntmps36, List.size_toArray, List.length_cons, List.length_nil, Nat.reduceAdd, Nat.reduceSub, Array.replicate_succ, Array.replicate_zero, List.push_toArray, List.append_toArray, List.nil_append, List.cons_append]
  gi_wp2
  gi_loopw [10] (fun vi wr => ∃ k : Nat, k ≤ c.edges.length ∧ k ≤ x.edges.length ∧ vi = .int .i64 (k : Int) ∧ J ((edgesL x c).take k) wr ∧ Blk wr Bc 30 cc ∧ Blk wr Bi 26 cs ∧ KpU UsS w0.heap.size (w.heap.size + 2) W wr) (fun i _ => c.edges.length - (intOf i).toNat)
  case atStart => exact ⟨0, Nat.zero_le _, Nat.zero_le _, rfl, by simpa using h0, s0, t0, KpU.refl _⟩
  case round =>
    clear s0 t0 h0 c0
    obtain ⟨k, hk, hkx, rfl, hj, hbr, hbi, hkr⟩ := hrel
    have hle := HLE.out
    have hlx := HLX.out
    unfold maxLen at hlx
    by_cases hlt : k < c.edges.length
    · have HK := HLO.out wr (hlow.trans hkr.below)
      obtain ⟨br, orr, hA, hbw, hrc⟩ := (HCX.out.edges.keep0 HK).elems rfl (fun _ _ => rfl) (by omega)
      have hq : Hid (CellsAt wr br (orr + k * 2) [.int .i64 c.edges[k].1, .int .i64 c.edges[k].2]) := hrc k hlt
      have hk0 : (0 : Int) ≤ (k : Int) := by omega
      have hk1 : (k : Int) < (c.edges.length : Int) := by omega
      rw [hA] at *
      clear hrc
      by_cases hltx : k < x.edges.length
      · have hx1 : decide ((x.edges.length : Int) ≤ (k : Int)) = false := decide_eq_false (by omega)
        have hx2 : (k : Int) < (x.edges.length : Int) := by omega
        obtain ⟨be, oe, hea, hbe, hec⟩ := HX.out.edge (by omega)
        have hce := Lib.hid ((hec k hltx).keep0 HK hbe)
        have HL23 : Hid ((edgCells x.edges[k]).length = 23) := edgCells_len (HEO.out.offs _ (List.getElem_mem hltx)) (HEO.out.mp _ (List.getElem_mem hltx))
        have HEone : Hid (∀ u ∈ edgCells x.edges[k], u.oneCell' = true) := iv_one _
        have hg0 : Hid ((edgCells x.edges[k])[0]? = some (.int .i64 x.edges[k].frm)) := show _ = _ from rfl
        have hg1 : Hid ((edgCells x.edges[k])[1]? = some (.int .i64 x.edges[k].to)) := show _ = _ from rfl
        have hg2 : Hid ((edgCells x.edges[k])[2]? = some (.int .i64 x.edges[k].prot)) := show _ = _ from rfl
        have hsj := edgesL_take x c hlt hltx
        have hsp : (edgesL x c).take (k + 1) <+: edgesL x c := List.take_prefix _ _
        simp only [edgeRow] at hsj
        have HBI := Lib.hid hbi
        have HBR := Lib.hid hbr
        have HKR := Lib.hid hkr
        have HJR := Lib.hid hj
        have HSJ := Lib.hid hsj
        have HSP := Lib.hid hsp
        clear hec hsj hsp hbi hbr hkr hj HX HCX
        generalize edgCells x.edges[k] = ec at *
        generalize x.edges[k].frm = e0 at *
        generalize x.edges[k].to = e1 at *
        generalize x.edges[k].prot = e2 at *
        generalize c.edges[k].1 = ra at *
        generalize c.edges[k].2 = rb at *
        gi_wp2_with (first
          | (refine wpListIn_agg rfl 47 (.tmp 13) rfl rfl (cs := [.int .i64 ra, .int .i64 rb]) agg_span hq.out ?_)
          | (refine stopIn_store 47 (.tmp 5) (.tmp 14) rfl ?_))
        constructor
        refine wpListIn_store_all rfl 47 (.tmp 5) (.tmp 14) rfl rfl rfl (vs := [.int .i64 ra, .int .i64 rb]) agg_span.2 (Blk.new _ _ _) (by simp [Value.oneCell']) rfl ?_
        intro w4 d4 k4
        have k34 : Keep [] wr w4 := ((Keep.refl [] wr).alloc _).trans k4 (fun y hy hlt => by simp at hy; omega)
        have q0 := d4.cell 0
        have q1 := d4.cell 1
        simp at q0 q1
        have ci := HI0 w4 (HBI.out.keep0 k34)
        rw [hea] at ci
        have hce4 := Lib.hid (hce.out.keep0 k34 (by have := HK.size; omega))
        have D4 := Lib.hid d4
        have K34 := Lib.hid k34
        clear k4 d4 k34 hce
        gi_wp2_with (first
          | (refine wpListIn_agg rfl 45 (.tmp 23) rfl rfl (cs := ec) (by rw [HL23.out]; exact agg_edge23) hce4.out ?_)
          | (refine stopIn_store 45 (.tmp 6) (.tmp 24) rfl ?_))
        constructor
        refine wpListIn_store_all rfl 45 (.tmp 6) (.tmp 24) rfl rfl rfl (vs := ec) (by rw [HL23.out]; exact agg_edge23.2) (Blk.new _ _ _) HEone.out ?_ ?_
        · rw [HL23.out]; rfl
        intro V d5 k5
        have k45 : Keep [] w4 V := ((Keep.refl [] w4).alloc _).trans k5 (fun y hy hlt => by simp at hy; omega)
        have q2 := d5.at_ hg0.out
        have q3 := d5.at_ hg1.out
        have q4 := d5.at_ hg2.out
        have q5 := (D4.out.keep0 k45).cell 0
        have q6 := (D4.out.keep0 k45).cell 1
        simp at q5 q6
        have KV := K34.out.then k45
        clear q0 q1 ci hce4 d5 k5 k45
        gi_wp2
        obtain ⟨V2, hV2⟩ : ∃ V2, V.alloc (.cells #[.int .i64 e0, .int .i64 e1, .int .i64 e2, .int .i64 ra, .int .i64 rb] 3) = V2 := ⟨_, rfl⟩
        have KV2 : Keep [] V V2 := by rw [← hV2]; exact (Keep.refl _ V).alloc _
        have dV2 : Blk V2 V.heap.size 3 (iv [e0, e1, e2, ra, rb]).toArray := by rw [← hV2]; exact Blk.new _ _ _
        have HTX : Hid (Calls Tryd.prog 34 #[.slice (some ⟨V.heap.size, 0, none⟩) 5 5] V2 (RetTs V2 ([e0, e1, e2, ra, rb].map textOf))) := texts_any _ 5 [e0, e1, e2, ra, rb] V2 (reads_blk dV2) (by simp)
        have HV2 := Lib.hid hV2
        rw [HV2.out]
        refine ⟨trivial, ?_⟩
        gi_at_call 34
        refine (callsIn_wide.2 HTX.out).mono ?_
        rintro e w3 ⟨A3, c3, rfl, hown3, k3⟩
        have hr3 := TxtAt.of_own hown3
        have K3 := KV.then (KV2.then k3)
        have j3 := hJ.k0 HJR.out K3
        have kk3 := HKR.out.step K3 (by simp) hB0
        have b3 := HBR.out.keep0 K3
        have i3 := HBI.out.keep0 K3
        have hp3 : (edgesL x c).take k ++ [[e0, e1, e2, ra, rb]] <+: edgesL x c := by rw [← HSJ.out]; exact HSP.out
        have HP3 := Lib.hid hp3
        obtain ⟨fn, tmps, assign, body, hy, hR⟩ := hR0 8 _ [e0, e1, e2, ra, rb] w3 A3 c3 j3 hp3 hr3
        clear hown3 k3 hp3 hr3
        simp only [List.length_map, List.length_cons, List.length_nil, Nat.zero_add, Nat.reduceAdd] at hy ⊢
        gi_wp2
        refine hR.mono ?_
        rintro e w5 (⟨rfl, j4, kr⟩ | ⟨rfl, jx, kr⟩)
        rotate_left
        · gi_wp2
          refine bodyPost_ret (results_none rfl _ _ _) rfl ?_
          exact ⟨⟨_, rfl⟩, .inr ⟨_, HP3.out, jx⟩⟩
        have k4 := kk3.trans kr
        have b4 := kr.blk b3 (by decide)
        have i4 := kr.blk i3 (by decide)
        clear hy hR
        gi_wp2
        go_roundw
        case rel => exact ⟨k + 1, by omega, by omega, by go_num, by rw [HSJ.out]; exact j4, b4, i4, k4⟩
        case measure => simp [intOf] <;> omega
      · obtain rfl : k = x.edges.length := by omega
        have hx1 : decide ((x.edges.length : Int) ≤ (x.edges.length : Int)) = true := by simp
        have HBI := Lib.hid hbi
        have HJR := Lib.hid hj
        clear hbi hbr hkr hj HX HCX
        generalize c.edges[x.edges.length].1 = ra at *
        generalize c.edges[x.edges.length].2 = rb at *
        gi_wp2_with (first
          | (refine wpListIn_agg rfl 47 (.tmp 13) rfl rfl (cs := [.int .i64 ra, .int .i64 rb]) agg_span hq.out ?_)
          | (refine stopIn_store 47 (.tmp 5) (.tmp 14) rfl ?_))
        constructor
        refine wpListIn_store_all rfl 47 (.tmp 5) (.tmp 14) rfl rfl rfl (vs := [.int .i64 ra, .int .i64 rb]) agg_span.2 (Blk.new _ _ _) (by simp [Value.oneCell']) rfl ?_
        intro w4 d4 k4
        have k34 : Keep [] wr w4 := ((Keep.refl [] wr).alloc _).trans k4 (fun y hy hlt => by simp at hy; omega)
        have ci := HI0 w4 (HBI.out.keep0 k34)
        have j4 := Lib.hid (hJ.k0 HJR.out k34)
        clear k4 d4 k34
        gi_wp2
        refine bodyPost_ret (results_none rfl _ _ _) rfl ?_
        refine ⟨⟨_, rfl⟩, .inl ?_⟩
        have := j4.out
        rwa [List.take_of_length_le (by rw [HEL.out]; omega)] at this
    · obtain rfl : k = c.edges.length := by omega
      gi_wp2
      go_end0
      refine ⟨⟨_, rfl⟩, .inl ?_⟩
      rwa [List.take_of_length_le (by rw [HEL.out]; omega)] at hj

def loadRow (x : Img) (p : Mdd × Nat) : List Int := [(p.2 : Int), loadM x p.1.set]
def loadsL (x : Img) : List (List Int) := x.modes.zipIdx.map (loadRow x)
theorem loadsL_take (x : Img) {k : Nat} (h : k < x.modes.length) : (loadsL x).take (k + 1) = (loadsL x).take k ++ [[(k : Int), loadM x x.modes[k].set]] := by
  unfold loadsL
  rw [List.take_succ_eq_append_getElem (by simpa using h)]
  simp [loadRow]
theorem loadsL_len (x : Img) : (loadsL x).length = x.modes.length := by unfold loadsL; simp
/-- What the iterator holds. -/
structure SL (w0 : World) (Bi : Nat) (cs : List Value) (W : World) : Prop where
  im : Blk W Bi 26 cs.toArray
  low : Below w0.heap.size w0 W
theorem SL.kp {w0 : World} {Bi B0 B2 : Nat} {cs : List Value} {W W' : World} (h : SL w0 Bi cs W) (k : KpU UsS B0 B2 W W') (hB : w0.heap.size ≤ B0) : SL w0 Bi cs W' := ⟨k.blk h.im (by decide), h.low.trans (k.below.mono hB)⟩
theorem SL.keep0 {w0 : World} {Bi : Nat} {cs : List Value} {W W' : World} (h : SL w0 Bi cs W) (k : Keep [] W W') : SL w0 Bi cs W' :=
  ⟨h.im.keep0 k, h.low.trans ⟨k.os, k.tape, k.output, k.size, fun x hx => k.block x (Nat.lt_of_lt_of_le hx h.low.size) (by simp)⟩⟩
set_option maxRecDepth 100000 in
set_option maxHeartbeats 4000000 in
theorem sloads1_seq (n : Nat) (v : ImgV) (x : Img) (w0 w : World) (hTb : Tab w0) (hx : ImgAt w0 v x) (hw0 : Below w0.heap.size w0 w) (Bi : Nat) (hBi : Bi < w.heap.size)
    (hbi : Blk w Bi 26 (imgCells v x).toArray) :
    SeqQ Fence.wide n Tryd.prog LoN 37 #[.pointer (some ⟨Bi, 0, none⟩)] (EncT txts) (KpU UsS w0.heap.size (w.heap.size + 2)) (loadsL x) w := by
  intro l J Jx W hW hge hJ hJx hY h0
  have hB0 : w0.heap.size ≤ W.heap.size := by have := hw0.size; omega
  have hlow : Below w0.heap.size w0 W := hw0.trans (hW.mono hw0.size)
  have hR0 : ∀ m pre (y : List Int) W1 A cp, J pre W1 → pre ++ [y] <+: loadsL x → TxtAt W1 A (txts y) → YieldAt Fence.wide m Tryd.prog l #[.slice A y.length cp] W1 fun e W' =>
      (e = .returned (.bool true) ∧ J (pre ++ [y]) W' ∧ KpU UsS w0.heap.size (w.heap.size + 2) W1 W') ∨ (e = .returned (.bool false) ∧ Jx (pre ++ [y]) W' ∧ KpU UsS w0.heap.size (w.heap.size + 2) W1 W') := fun m pre y W1 A cp hj hp hr => yieldAt_any open_wide (hY pre y W1 _ hj hp ⟨A, cp, by rw [txts_len], hr⟩)
  clear hY
  have s0 : SL w0 Bi (imgCells v x) W := ⟨(hW.block Bi hBi).trans hbi, hlow⟩
  have HX := Lib.hid hx
  have c0 : W.cell? ⟨Bi, 2, none⟩ = some (.slice v.ma x.modes.length v.mc) := by rw [s0.im.cell]; rfl
  have hSF0 : ∀ w', SL w0 Bi (imgCells v x) w' → w'.cell? ⟨Bi, 2, none⟩ = some (.slice v.ma x.modes.length v.mc) := fun w' h => by rw [h.im.cell]; rfl
  have hSA : ∀ w', SL w0 Bi (imgCells v x) w' → CellsAt w' Bi 0 (imgCells v x) := fun w' h => h.im.cellsAt
  have HIC : Hid ((imgCells v x).length = 4) := show _ = _ from rfl
  have HLX := Lib.hid hx.lm
  have HEL := Lib.hid (loadsL_len x)
  have HSE := Lib.hid hx.ok.set
  have hLO := fun (s : Nat) (hs : s < 4294967296) w' (h : SL w0 Bi (imgCells v x) w') => loadOf_any v x s w' (hTb.keep0 (keepB h.low)) (hx.keep0 (keepB h.low)) hs
  clear hx hbi hTb
  generalize imgCells v x = cs at *
  rw [callsIn_wide, ← callsIn_wide (n := 9)]
  refine callsIn_of_wp Tryd.func37 rfl trivial ?_ rfl
  simp only [Tryd.ntmps37, List.size_toArray, List.length_cons, List.length_nil, Nat.reduceAdd, Nat.reduceSub, Array.replicate_succ, Array.replicate_zero, List.push_toArray, List.append_toArray, List.nil_append, List.cons_append]
  gi_wp2
  gi_loopw [7] (fun vi wr => ∃ k : Nat, k ≤ x.modes.length ∧ vi = .int .i64 (k : Int) ∧ J ((loadsL x).take k) wr ∧ SL w0 Bi cs wr) (fun i _ => x.modes.length - (intOf i).toNat)
  case atStart => exact ⟨0, Nat.zero_le _, rfl, by simpa using h0, s0⟩
  case round =>
    clear s0 h0 c0
    obtain ⟨k, hk, rfl, hj, hs⟩ := hrel
    have hlx := HLX.out
    unfold maxLen at hlx
    by_cases hlt : k < x.modes.length
    · have hk0 : (0 : Int) ≤ (k : Int) := by omega
      have hk1 : (k : Int) < (x.modes.length : Int) := by omega
      obtain ⟨bm, om, hma, hbm, hmo⟩ := HX.out.mode (by omega)
      obtain ⟨Aq, cq, hmc, _⟩ := hmo k hlt
      have hset := HSE.out _ (List.getElem_mem hlt)
      have hL0 := hLO _ hset
      have hSJ := loadsL_take x hlt
      have hSP : (loadsL x).take (k + 1) <+: loadsL x := List.take_prefix _ _
      have hSF : ∀ w', SL w0 Bi cs w' → w'.cell? ⟨Bi, 2, none⟩ = some (.slice (some ⟨bm, om, none⟩) x.modes.length v.mc) ∧ w'.cell? ⟨bm, om + k * 2, none⟩ = some (.int .u32 (x.modes[k].set : Int)) := fun w' h => ⟨by rw [hSF0 w' h, hma], hmc.keep0 (keepB h.low) hbm 0 _ rfl⟩
      have HSJ := Lib.hid hSJ
      have HSP := Lib.hid hSP
      clear hSJ hSP hmo hmc hLO hSF0 HX hset
      generalize loadM x x.modes[k].set = lm at *
      generalize x.modes[k].set = st at *
      gi_wp2
      refine ai_start (SL w0 Bi cs) rfl rfl (hs.keep0 (Keep.refl _ _).drew) (fun hND hS hPan => ?_)
      have jb := hJ.k0 hj (Keep.refl _ wr).drew
      clear hj hs
      generalize wr.drew = wd at *
      (refine ai_val (v := ?_) 0 rfl open_wide hND (by kernel_rfl) (by kernel_rfl) (by kernel_rfl) (by rfl) hPan ?_ hS ?_; rotate_left; (intro w' hSw; go_simp; try with_reducible rfl); simp only [Act.put, List.setIfInBounds_toArray, List.set_cons_zero, List.set_cons_succ])
      (refine ai_val (v := ?_) 1 rfl open_wide hND (by kernel_rfl) (by kernel_rfl) (by kernel_rfl) (by rfl) hPan ?_ hS ?_; rotate_left; (intro w' hSw; go_simp; try with_reducible rfl); simp only [Act.put, List.setIfInBounds_toArray, List.set_cons_zero, List.set_cons_succ])
      refine ai_agg 2 26 (.tmp 1) cs rfl open_wide hND (by kernel_rfl) (by kernel_rfl) (by kernel_rfl) (by rfl) hPan rfl rfl (by rw [HIC.out]; exact agg_image) hSA hS ?_
      (simp only [Act.put, List.setIfInBounds_toArray, List.set_cons_zero, List.set_cons_succ])
      (refine ai_val (v := ?_) 3 rfl open_wide hND (by kernel_rfl) (by kernel_rfl) (by kernel_rfl) (by rfl) hPan ?_ hS ?_; rotate_left; (intro w' hSw; go_simp; try with_reducible rfl); simp only [Act.put, List.setIfInBounds_toArray, List.set_cons_zero, List.set_cons_succ])
      (refine ai_val (v := ?_) 4 rfl open_wide hND (by kernel_rfl) (by kernel_rfl) (by kernel_rfl) (by rfl) hPan ?_ hS ?_; rotate_left; (intro w' hSw; obtain ⟨f0, f1⟩ := hSF w' hSw; go_simp; try with_reducible rfl); simp only [Act.put, List.setIfInBounds_toArray, List.set_cons_zero, List.set_cons_succ])
      (refine ai_val (v := ?_) 5 rfl open_wide hND (by kernel_rfl) (by kernel_rfl) (by kernel_rfl) (by rfl) hPan ?_ hS ?_; rotate_left; (intro w' hSw; go_simp; try with_reducible rfl); simp only [Act.put, List.setIfInBounds_toArray, List.set_cons_zero, List.set_cons_succ])
      (refine ai_val (v := ?_) 6 rfl open_wide hND (by kernel_rfl) (by kernel_rfl) (by kernel_rfl) (by rfl) hPan ?_ hS ?_; rotate_left; (intro w' hSw; go_simp; try with_reducible rfl); simp only [Act.put, List.setIfInBounds_toArray, List.set_cons_zero, List.set_cons_succ])
      (refine ai_val (v := ?_) 7 rfl open_wide hND (by kernel_rfl) (by kernel_rfl) (by kernel_rfl) (by rfl) hPan ?_ hS ?_; rotate_left; (intro w' hSw; go_simp; try with_reducible rfl); simp only [Act.put, List.setIfInBounds_toArray, List.set_cons_zero, List.set_cons_succ])
      (refine ai_val (v := ?_) 8 rfl open_wide hND (by kernel_rfl) (by kernel_rfl) (by kernel_rfl) (by rfl) hPan ?_ hS ?_; rotate_left; (intro w' hSw; obtain ⟨f0, f1⟩ := hSF w' hSw; go_simp; try with_reducible rfl); simp only [Act.put, List.setIfInBounds_toArray, List.set_cons_zero, List.set_cons_succ])
      refine ai_one 9 (by kernel_rfl) (oi_call (f := 9) 9 rfl open_wide hND (by rfl) rfl (by simp only [List.map_toArray, List.map_cons, List.map_nil]; rfl) Tryd.func9 (by kernel_rfl) (by kernel_rfl) (hL0 _ hS) ?_)
      rintro e w2 ⟨rfl, k2⟩
      have hS2 := hS.keep0 k2
      refine ⟨_, rfl, hS2, ?_⟩
      clear hS
      (simp only [Act.put, List.setIfInBounds_toArray, List.set_cons_zero, List.set_cons_succ])
      obtain ⟨V2, hV2⟩ : ∃ V2, w2.alloc (.cells #[.int .i64 (k : Int), .int .i64 lm] 3) = V2 := ⟨_, rfl⟩
      have KV2 : Keep [] w2 V2 := by rw [← hV2]; exact (Keep.refl _ w2).alloc _
      have dV2 : Blk V2 w2.heap.size 3 (iv [(k : Int), lm]).toArray := by rw [← hV2]; exact Blk.new _ _ _
      have hS := hS2.keep0 KV2
      refine ai_one 10 (by kernel_rfl) (oi_run (v := .slice (some ⟨w2.heap.size, 0, none⟩) 2 2) (w' := V2) rfl open_wide hND (by rfl) (by rw [← hV2]; go_simp) ⟨hS, ?_⟩)
      (simp only [Act.put, List.setIfInBounds_toArray, List.set_cons_zero, List.set_cons_succ])
      have HTX : Calls Tryd.prog 34 #[.slice (some ⟨w2.heap.size, 0, none⟩) 2 2] V2 (RetTs V2 ([(k : Int), lm].map textOf)) := texts_any _ 2 [(k : Int), lm] V2 (reads_blk dV2) (by simp)
      refine ai_one 11 (by kernel_rfl) (oi_call (f := 34) 11 rfl open_wide hND (by rfl) rfl (by simp only [List.map_toArray, List.map_cons, List.map_nil]; rfl) Tryd.func34 (by kernel_rfl) (by kernel_rfl) HTX ?_)
      rintro e w3 ⟨A3, c3, rfl, hown3, k3⟩
      have hr3 := TxtAt.of_own hown3
      have hS3 := hS.keep0 k3
      have j3 := hJ.k0 jb (k2.then (KV2.then k3))
      have hp3 : (loadsL x).take k ++ [[(k : Int), lm]] <+: loadsL x := by rw [← HSJ.out]; exact HSP.out
      have HP3 := Lib.hid hp3
      have hYr := hR0 8 _ [(k : Int), lm] w3 A3 c3 j3 hp3 hr3
      simp only [List.length_map, List.length_cons, List.length_nil, Nat.zero_add, Nat.reduceAdd] at hYr ⊢
      refine ⟨_, rfl, hS3, ?_⟩
      clear hS hown3 hr3 hp3
      (simp only [Act.put, List.setIfInBounds_toArray, List.set_cons_zero, List.set_cons_succ])
      refine ai_one 12 (by kernel_rfl) (oi_yield 12 rfl open_wide hND (by rfl) rfl rfl (vs := #[.slice A3 2 c3]) (by simp only [List.map_toArray, List.map_cons, List.map_nil]; rfl) hYr rfl ?_)
      rintro e w8 (⟨rfl, j8, kr⟩ | ⟨rfl, jx, kr⟩)
      all_goals
        have hS8 := hS3.kp kr (Nat.le_refl _)
        refine ⟨_, rfl, hS8, ?_⟩
        replace hS := hS8
        (simp only [Act.put, List.setIfInBounds_toArray, List.set_cons_zero, List.set_cons_succ])
        (refine ai_val (v := ?_) 13 rfl open_wide hND (by kernel_rfl) (by kernel_rfl) (by kernel_rfl) (by rfl) hPan ?_ hS ?_; rotate_left; (intro w' hSw; go_simp; try with_reducible rfl); simp only [Act.put, List.setIfInBounds_toArray, List.set_cons_zero, List.set_cons_succ])
        refine ai_end (by kernel_rfl) ?_ _
        gi_wp2
      · go_roundw
        case rel => exact ⟨k + 1, by omega, by go_num, by rw [HSJ.out]; exact j8, hS8⟩
        case measure => simp [intOf] <;> omega
      · refine bodyPost_ret (results_none rfl _ _ _) rfl ?_
        exact ⟨⟨_, rfl⟩, .inr ⟨_, HP3.out, jx⟩⟩
    · obtain rfl : k = x.modes.length := by omega
      gi_wp2
      go_end0
      refine ⟨⟨_, rfl⟩, .inl ?_⟩
      rwa [List.take_of_length_le (by rw [HEL.out]; omega)] at hj
end Go.Proofs.YteocldlglklnjaaDoor
