/- mask's All as an iterator: it goes through the numbers of the set, rising. Condition: the table of math/bits lies where the program's text lays it. -/
import Derived.Shelf.Spec.TrailingZeros
import Derived.Test.YteflgdnekflbbaaDoorMask
import Derived.Test.YteflgdnekflbbaaDoorIter
namespace Go.Proofs.YteflgdnekflbbaaDoor
open Go.RowKit
attribute [local go_sem] Oper.semAt_some

/-- The table of math/bits, where the program's text lays it. -/
def Tab (w : World) : Prop := 0 < w.heap.size ∧ ∀ j, j < 32 → w.cell? ⟨0, j, none⟩ = some (.int .u8 (Lib.deBruijn32tab.getD j 0))
theorem Tab.keep {F : List Nat} {w w' : World} (h : Tab w) (k : Keep F w w') (hF : 0 ∉ F) : Tab w' :=
  ⟨Nat.lt_of_lt_of_le h.1 k.size, fun j hj => (k.cell (p := ⟨0, j, none⟩) h.1 hF).trans (h.2 j hj)⟩
theorem Tab.keep0 {w w' : World} (h : Tab w) (k : Keep [] w w') : Tab w' := h.keep k (by simp)

set_option maxHeartbeats 1000000 in
theorem tz_core (x k idx : Nat) (w : World) (hx0 : ((x : Int) == 0) = false)
    (key : bits BinOp.and IntKind.u32 (x : Int) (-(x : Int) % 4294967296) * 125613361 % 4294967296 / 134217728 = (idx : Int))
    (hi : idx < 32) (hk : k < 32) (hcell : w.cell? ⟨0, idx, none⟩ = some (.int .u8 k)) :
    Calls Tryd.prog 57 #[.int .u32 x] w fun e w' => e = .returned (.int .i64 k) ∧ w = w' := by
  go_enter Tryd.func57, Tryd.ntmps57
  go_wp2_with (simp only [key])
  go_ret
  exact ⟨rfl, rfl⟩
theorem tz_any (x : Nat) (w : World) (h0 : 0 < x) (hx : x < 4294967296) (hT : Tab w) : Calls Tryd.prog 57 #[.int .u32 (x : Int)] w fun e w' => e = .returned (.int .i64 (Lib.ctz 32 x : Int)) ∧ w = w' := by
  have hx0 : x ≠ 0 := by omega
  obtain ⟨hlow, hk⟩ := Lib.lowest_bit 32 x hx0 hx
  obtain ⟨hi, htab⟩ := Lib.deBruijn32_at _ hk
  have hcell := hT.2 _ hi
  rw [htab] at hcell
  exact tz_core x _ _ w (by simp; omega) (tz32_key x _ hx hx0 hlow) hi hk hcell

def encN (k : Nat) : Array Value := #[.int .i64 (k : Int)]
theorem maskAll_any (s : Nat) (w : World) : Calls Tryd.prog 40 #[.int .u32 (s : Int)] w fun e w' =>
    e = .returned (.func (.func 56) #[] #[.pointer (some ⟨w.heap.size, 0, none⟩)]) ∧ w.alloc (.cells #[.int .u32 (s : Int)] 36) = w' := by
  go_enter Tryd.func40, Tryd.ntmps40
  go_wp2
  go_ret
  exact ⟨rfl, rfl⟩
theorem Tab.same {C : List Nat} {w w' : World} (h : Tab w) (k : Same C w w') (hC : 0 ∈ C) : Tab w' := by
  have e := k _ hC
  refine ⟨?_, fun j hj => (World.cell?_of_block (a := ⟨0, j, none⟩) e).trans (h.2 j hj)⟩
  rcases Nat.lt_or_ge 0 w'.heap.size with h1 | h1
  · exact h1
  · rw [Array.getElem?_eq_none h1, Array.getElem?_eq_getElem h.1] at e
    cases e

set_option maxRecDepth 100000 in
set_option maxHeartbeats 1000000 in
theorem maskAll1_seq (n : Nat) (s : Nat) (B : Nat) (w : World) (hB : B < w.heap.size) (hb : Blk w B 36 #[.int .u32 (s : Int)]) (hs : s < 4294967296) (hT : Tab w) :
    SeqP Fence.wide n Tryd.prog 56 #[.pointer (some ⟨B, 0, none⟩)] encN (Same [B, 0]) (bitsL s) w := by
  intro l0 J Jx W hW hJ hJx hY h0
  have hcell : W.cell? ⟨B, 0, none⟩ = some (.int .u32 (s : Int)) := (hW.cell (p := ⟨B, 0, none⟩) hB).trans (by rw [hb.cell]; rfl)
  have hSW : Hid (Tab W) := ⟨Nat.lt_of_lt_of_le hT.1 hW.size, fun j hj => (hW.cell (p := ⟨0, j, none⟩) hT.1).trans (hT.2 j hj)⟩
  clear hb hT
  refine callsIn_of_wp Tryd.func56 rfl trivial ?_ rfl
  simp only [Tryd.ntmps56, List.size_toArray, List.length_cons, List.length_nil, Nat.reduceAdd, Nat.reduceSub, Array.replicate_succ, Array.replicate_zero, List.push_toArray, List.append_toArray, List.nil_append, List.cons_append]
  gi_wp2
  gi_loopw [3] (fun vi wr => ∃ (pre : List Nat) (x : Nat), bitsL s = pre ++ bitsL x ∧ x < 4294967296 ∧ vi = .int .u32 (x : Int) ∧ J pre wr ∧ Same [B, 0] W wr) (fun i _ => (intOf i).toNat)
  case atStart => exact ⟨[], s, rfl, hs, rfl, h0, Same.refl _ _⟩
  case round =>
    obtain ⟨pre, x, hsp, hx, rfl, hJr, hk⟩ := hrel
    have hTr := Lib.hid (hSW.out.same hk (by simp))
    by_cases h0 : x = 0
    · subst h0
      have HE : Hid (pre = bitsL s) := by show _ = _; rw [hsp, bitsL_zero, List.append_nil]
      clear hsp
      gi_wp2
      go_end0
      exact ⟨⟨_, rfl⟩, .inl (by rw [← HE.out]; exact hJr)⟩
    · obtain ⟨hst, hk32⟩ := bitsL_step x (by omega) hx
      have hlen : pre ++ [Lib.ctz 32 x] <+: bitsL s := by rw [hsp, hst]; exact ⟨bitsL (x &&& (x - 1)), by simp⟩
      obtain ⟨fn, tmps, assign, body, hy, hR⟩ := hY pre (Lib.ctz 32 x) wr hJr hlen
      have HSP : Hid (bitsL s = (pre ++ [Lib.ctz 32 x]) ++ bitsL (x &&& (x - 1))) := by show _ = _; rw [hsp, hst, List.append_assoc]; rfl
      have hand : bits .and .u32 (x : Int) ((x - 1 : Nat) : Int) = ((x &&& (x - 1) : Nat) : Int) := u32_and_nat x (x - 1) hx (by omega)
      have hlt : x &&& (x - 1) < x := by have := Nat.and_le_right (n := x) (m := x - 1); omega
      have hsub : Hid (((x : Int) - 1) = ((x - 1 : Nat) : Int)) := by show _ = _; omega
      have hx0 : ((x : Int) != 0) = true := by simp; omega
      have hx1 : (1 : Int) ≤ (x : Int) := by omega
      have HAND := Lib.hid hand
      have HTZ := Lib.hid (tz_any x wr (by omega) hx hTr.out)
      dsimp only [encN] at hy
      clear hsp hst hand h0
      generalize Lib.ctz 32 x = c at *
      generalize x &&& (x - 1) = x2 at *
      gi_wp2
      refine ⟨trivial, fun h => (by cases h), (callsIn_wide.2 HTZ.out).mono ?_⟩
      rintro e w' ⟨rfl, rfl⟩
      gi_wp2
      refine ⟨fun h => (by cases h), hR.mono ?_⟩
      rintro e W3 (⟨rfl, hJ3, hk3⟩ | ⟨rfl, hJx3⟩)
      · have hk4 := Lib.hid (hk.trans hk3)
        gi_wp2
        rw [hsub.out, HAND.out]
        go_roundw
        case rel => exact ⟨pre ++ [c], x2, HSP.out, by omega, rfl, hJ3, hk4.out⟩
        case measure => simp [intOf] <;> omega
      · gi_wp2
        refine bodyPost_ret (results_none rfl _ _ _) rfl ?_
        exact ⟨⟨_, rfl⟩, .inr ⟨_, by rw [HSP.out]; exact List.prefix_append _ _, hJx3⟩⟩
theorem maskAll1_stops (n : Nat) (s : Nat) (B : Nat) (w : World) (hB : B < w.heap.size) (hb : Blk w B 36 #[.int .u32 (s : Int)]) (hs : s < 4294967296) (hT : Tab w) :
    SeqStopsK Fence.wide n Tryd.prog 56 #[.pointer (some ⟨B, 0, none⟩)] encN (Same [B, 0]) (fun xs => xs = bitsL s) (fun pre => pre <+: bitsL s) (bitsL s).length w :=
  (maskAll1_seq n s B w hB hb hs hT).stops
end Go.Proofs.YteflgdnekflbbaaDoor
