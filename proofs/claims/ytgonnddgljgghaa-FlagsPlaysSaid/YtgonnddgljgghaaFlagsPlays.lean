/- FlagsPlays answers true for every row of calls, and writes to nothing that was there. -/
import Derived.Test.YtgonnddgljgghaaFlagsLaw
namespace Go.Proofs.Ytgonnddgljgghaa
open Go.RowKit

theorem IsSet.len0 {s : Nat} {h : List Int} (H : IsSet s h) : ((h.length : Int) == 0) = decide (s = 0) := by
  rw [Bool.eq_iff_iff, decide_eq_true_eq, ← H.zero]
  simp
theorem of_set {s n c : Nat} {A : Option Addr} {h : List Int} {w : World} (hr : Reads w 1 A n (ints h)) (H : IsSet s h) :
    Calls Try.prog 18 #[.slice A n c] w fun e w' => e = .returned (.int .u32 (s : Int)) ∧ w = w' := by
  have hn : h.length = n := by simpa using hr.len
  have := of_any A n c h w hr (by have := H.le; unfold maxLen; omega)
  rwa [H.of] at this
/-- A row of calls as cells. -/
def flagOps (l : List (Int × Nat)) : List Value := l.flatMap (fun o => [.int .i64 o.1, .int .u32 (o.2 : Int)])
theorem flagOps_at (l : List (Int × Nat)) (k : Nat) (hk : k < l.length) : (flagOps l)[k * 2]? = some (.int .i64 l[k].1) ∧ (flagOps l)[k * 2 + 1]? = some (.int .u32 (l[k].2 : Int)) := by
  induction l generalizing k with
  | nil => simp at hk
  | cons o l ih =>
    cases k with
    | zero => exact ⟨rfl, rfl⟩
    | succ k =>
      have := ih k (by simpa using hk)
      have e : flagOps (o :: l) = .int .i64 o.1 :: .int .u32 (o.2 : Int) :: flagOps l := rfl
      rw [e, show (k + 1) * 2 = k * 2 + 1 + 1 by omega]
      simpa using this

theorem tmod_six (x : Int) : -5 ≤ x.tmod 6 ∧ x.tmod 6 ≤ 5 := by
  have h1 := Int.emod_nonneg x (show (6 : Int) ≠ 0 by decide)
  have h2 := Int.emod_lt_of_pos x (show (0 : Int) < 6 by decide)
  rw [Int.tmod_eq_emod]
  split <;> simp <;> omega
def FlagsInv (w : World) (v : Value) (wr : World) : Prop :=
  ∃ (s : Nat) (h : List Int), IsSet s h ∧ FlagsAt wr w.heap.size s ∧ OwnInts w wr v h

set_option maxRecDepth 100000 in
set_option maxHeartbeats 3000000 in
theorem flagsPlays_any (A : Option Addr) (n c : Nat) (l : List (Int × Nat)) (w : World) (hr : Reads w 2 A n (flagOps l)) (hl : ∀ o ∈ l, o.2 < 4294967296) (hn : l.length = n) (hm : n ≤ maxLen) :
    Calls Try.prog 3 #[.slice A n c] w fun e w' => e = .returned (.bool true) ∧ Keep [] w w' := by
  unfold maxLen at hm
  by_cases hbig : 200 < n
  · clear hn
    go_enter Try.func3, Try.ntmps3
    go_wp2
    go_ret
    exact ⟨rfl, Keep.refl _ _⟩
  have HN := Lib.hid hn
  clear hn
  have K0 : Keep [] w (w.alloc (.cells #[.int .u32 (0 : Int)] 27)) := (Keep.refl _ w).alloc _
  have F0 : FlagsAt (w.alloc (.cells #[.int .u32 (0 : Int)] 27)) w.heap.size 0 := Blk.new w _ _
  have I0 : Hid (FlagsInv w (.slice none 0 0) (w.alloc (.cells #[.int .u32 (0 : Int)] 27))) := ⟨0, [], IsSet.nil, F0, World.ownsRow_nil _ _ _ _, K0⟩
  clear K0 F0
  go_enter Try.func3, Try.ntmps3
  go_wp2
  go_loopw [4, 5] (fun v i wr => ∃ k : Nat, k ≤ n ∧ i = .int .i64 k ∧ FlagsInv w v wr) (fun _ i _ => n - (intOf i).toNat)
  case atStart => exact ⟨0, Nat.zero_le _, rfl, I0.out⟩
  case round =>
    clear I0
    obtain ⟨k, hk, rfl, s, h, HS, hf, hown⟩ := hrel
    by_cases hlt : k < n
    · have hlk : k < l.length := by rw [HN.out]; exact hlt
      obtain ⟨b, o, rfl, hb, hcells⟩ := hr.addr (by omega)
      obtain ⟨hc0, hc1⟩ := flagOps_at l k hlk
      have hcell0 := (hown.2.cell (p := ⟨b, o + k * 2, none⟩) hb (by simp)).trans (hcells _ _ hc0)
      have hcell1 := (hown.2.cell (p := ⟨b, o + k * 2 + 1, none⟩) hb (by simp)).trans (hcells _ _ hc1)
      have hL := Lib.hid (hl _ (List.getElem_mem hlk))
      have HX := IsSet.list _ hL.out
      have hq := tmod_six l[k].1
      generalize l[k].1 = kind at *
      generalize l[k].2 = L at *
      clear hcells hc0 hc1
      have hm1 := Lib.hid hm
      clear hm
      have hg := hf.lt
      go_wp2_with fail
      refine (list_any L _).mono ?_
      rintro e w1 ⟨Ax, cx, rfl, ox, k1⟩
      have hc1 := (k1.cell (p := ⟨b, o + k * 2 + 1, none⟩) (by simp; omega) (by simp)).trans hcell1
      have hc0 := (k1.cell (p := ⟨b, o + k * 2, none⟩) (by simp; omega) (by simp)).trans hcell0
      have hf1 : FlagsAt w1 w.heap.size s := Blk.keep0 hf k1
      have oh1 := own_keep0 hown.1 k1
      have K1 := hown.2.then k1
      clear hcell0 hcell1 hf
      obtain ⟨Ah, ch, rfl⟩ := own_shape oh1
      go_wp2_with fail
      refine (both_any _ _ _ _ _ _ h (listN L 32) _ (Reads.of_own oh1) (Reads.of_own ox) (Nat.le_trans HS.le (by decide)) (Nat.le_trans HX.le (by decide))).mono ?_
      rintro e w2 ⟨Ag, cg, rfl, og, k2⟩
      have k3 : Keep [] w1 (w2.alloc (.cells #[] 3)) := k2.alloc _
      have hc0 := (k3.cell (p := ⟨b, o + k * 2, none⟩) (by have := k1.size; simp; omega) (by simp)).trans hc0
      have hc1 := (k3.cell (p := ⟨b, o + k * 2 + 1, none⟩) (by have := k1.size; simp; omega) (by simp)).trans hc1
      have hf3 : FlagsAt (w2.alloc (.cells #[] 3)) w.heap.size s := Blk.keep0 hf1 k3
      have oh3 := own_keep0 oh1 k3
      have ox3 := own_keep0 ox k3
      have og3 := own_keep0 og ((Keep.refl _ w2).alloc (.cells #[] 3))
      have K3 := K1.then k3
      clear k2 k3 hf1 oh1 ox og K1 k1
      have HQ : Hid (0 ≤ (kind.tmod 6 + 6) % 6 ∧ (kind.tmod 6 + 6) % 6 ≤ 5) := ⟨by omega, by omega⟩
      by_cases q2 : (kind.tmod 6 + 6) % 6 = 2
      · by_cases hL0 : L = 0
        · have L0 := hL0
          have E1 : (((listN L 32).length : Int) == 0) = true := by rw [HX.len0]; simp [L0]
          have E3 : flagE L = 280 := by simp [flagE, L0]
          have HL0 := Lib.hid L0
          clear L0 hL0
          go_wp2_with fail
          refine (fclear_any w.heap.size s L _ HS.lt hL.out hf3).mono ?_
          rintro e w4 ⟨rfl, hf4, k4⟩
          have oh4 := own_keep oh3 k4 (fun g hg => by have := own_blk_ne oh3 hf3 (by decide); rw [hg] at this; simpa using this)
          have ox4 := own_keep ox3 k4 (fun g hg => by have := own_blk_ne ox3 hf3 (by decide); rw [hg] at this; simpa using this)
          have og4 := own_keep og3 k4 (fun g hg => by have := own_blk_ne og3 hf3 (by decide); rw [hg] at this; simpa using this)
          have hc0' := (k4.cell (p := ⟨b, o + k * 2, none⟩) (World.block_lt_of_cell? _ _ hc0) (by simp; omega)).trans hc0
          have K4 := K3.trans k4 (by simp)
          clear hc0 hc1 hf3 oh3 ox3 og3 K3 k4
          go_wp2_with fail
          refine (without_any _ _ _ _ _ _ h (listN L 32) _ (Reads.of_own oh4) (Reads.of_own ox4) (Nat.le_trans HS.le (by decide)) (Nat.le_trans HX.le (by decide))).mono ?_
          rintro e w5 ⟨Av, cv, rfl, ov, k5⟩
          have hc0 := (k5.cell (p := ⟨b, o + k * 2, none⟩) (World.block_lt_of_cell? _ _ hc0') (by simp)).trans hc0'
          have hf5 := Blk.keep0 hf4 k5
          have K5 := K4.then k5
          have ov' := own_base ov K4.size
          go_wp2_with fail
          refine (of_set Reads.none_ IsSet.nil).mono ?_
          rintro e w6 ⟨rfl, rfl⟩
          go_wp2_with fail
          refine (fall_any w.heap.size _ _ hf5).mono ?_
          rintro e w6 ⟨rfl, rfl⟩
          go_wp2_with fail
          refine (of_set (Reads.of_own ov) (HS.without HX)).mono ?_
          rintro e w6 ⟨rfl, rfl⟩
          go_wp2
          go_roundw
          case rel => exact ⟨k + 1, by omega, by go_num, _, _, (HS.without HX), hf5, ov', K5⟩
          case measure => simp [intOf]; omega
        · have L0 : ¬ L = 0 := hL0
          have E1 : (((listN L 32).length : Int) == 0) = false := by rw [HX.len0]; simp [L0]
          have E3 : flagE L = 0 := by simp [flagE, L0]
          have HL0 := Lib.hid L0
          clear L0 hL0
          go_wp2_with fail
          refine (fclear_any w.heap.size s L _ HS.lt hL.out hf3).mono ?_
          rintro e w4 ⟨rfl, hf4, k4⟩
          have oh4 := own_keep oh3 k4 (fun g hg => by have := own_blk_ne oh3 hf3 (by decide); rw [hg] at this; simpa using this)
          have ox4 := own_keep ox3 k4 (fun g hg => by have := own_blk_ne ox3 hf3 (by decide); rw [hg] at this; simpa using this)
          have og4 := own_keep og3 k4 (fun g hg => by have := own_blk_ne og3 hf3 (by decide); rw [hg] at this; simpa using this)
          have hc0' := (k4.cell (p := ⟨b, o + k * 2, none⟩) (World.block_lt_of_cell? _ _ hc0) (by simp; omega)).trans hc0
          have K4 := K3.trans k4 (by simp)
          clear hc0 hc1 hf3 oh3 ox3 og3 K3 k4
          go_wp2_with fail
          refine (without_any _ _ _ _ _ _ h (listN L 32) _ (Reads.of_own oh4) (Reads.of_own ox4) (Nat.le_trans HS.le (by decide)) (Nat.le_trans HX.le (by decide))).mono ?_
          rintro e w5 ⟨Av, cv, rfl, ov, k5⟩
          have hc0 := (k5.cell (p := ⟨b, o + k * 2, none⟩) (World.block_lt_of_cell? _ _ hc0') (by simp)).trans hc0'
          have hf5 := Blk.keep0 hf4 k5
          have K5 := K4.then k5
          have ov' := own_base ov K4.size
          go_wp2_with fail
          refine (of_set Reads.none_ IsSet.nil).mono ?_
          rintro e w6 ⟨rfl, rfl⟩
          go_wp2_with fail
          refine (fall_any w.heap.size _ _ hf5).mono ?_
          rintro e w6 ⟨rfl, rfl⟩
          go_wp2_with fail
          refine (of_set (Reads.of_own ov) (HS.without HX)).mono ?_
          rintro e w6 ⟨rfl, rfl⟩
          go_wp2
          go_roundw
          case rel => exact ⟨k + 1, by omega, by go_num, _, _, (HS.without HX), hf5, ov', K5⟩
          case measure => simp [intOf]; omega
      by_cases q3 : (kind.tmod 6 + 6) % 6 = 3
      · by_cases hL0 : L = 0
        · have L0 := hL0
          have E1 : (((listN L 32).length : Int) == 0) = true := by rw [HX.len0]; simp [L0]
          have A0 : s &&& L = 0 := by rw [L0]; simp
          have E2 : (((h.filter (fun y => decide (y ∈ listN L 32))).length : Int) == 0) = true := by rw [(HS.both HX).len0]; simp [A0]
          have E3 : anyE s L = 280 := by simp [anyE, L0]
          have HL0 := Lib.hid L0
          have HA0 := Lib.hid A0
          clear L0 hL0 A0
          go_wp2_with fail
          refine (fany_any w.heap.size s L _ HS.lt hL.out hf3).mono ?_
          rintro e w4 ⟨rfl, rfl⟩
          rw [HA0.out]
          go_wp2_with fail
          refine (of_set Reads.none_ IsSet.nil).mono ?_
          rintro e w6 ⟨rfl, rfl⟩
          go_wp2_with fail
          refine (fall_any w.heap.size _ _ hf3).mono ?_
          rintro e w6 ⟨rfl, rfl⟩
          go_wp2_with fail
          refine (of_set (Reads.of_own oh3) HS).mono ?_
          rintro e w6 ⟨rfl, rfl⟩
          go_wp2
          go_roundw
          case rel => exact ⟨k + 1, by omega, by go_num, _, _, HS, hf3, oh3, K3⟩
          case measure => simp [intOf]; omega
        · by_cases hA0 : s &&& L = 0
          · have L0 : ¬ L = 0 := hL0
            have E1 : (((listN L 32).length : Int) == 0) = false := by rw [HX.len0]; simp [L0]
            have A0 : s &&& L = 0 := hA0
            have E2 : (((h.filter (fun y => decide (y ∈ listN L 32))).length : Int) == 0) = true := by rw [(HS.both HX).len0]; simp [A0]
            have E3 : anyE s L = 270 := by simp [anyE, L0, A0]
            have HL0 := Lib.hid L0
            have HA0 := Lib.hid A0
            clear L0 hL0 A0 hA0
            go_wp2_with fail
            refine (fany_any w.heap.size s L _ HS.lt hL.out hf3).mono ?_
            rintro e w4 ⟨rfl, rfl⟩
            go_wp2_with fail
            refine (of_set (Reads.of_own og3) (HS.both HX)).mono ?_
            rintro e w6 ⟨rfl, rfl⟩
            go_wp2_with fail
            refine (fall_any w.heap.size _ _ hf3).mono ?_
            rintro e w6 ⟨rfl, rfl⟩
            go_wp2_with fail
            refine (of_set (Reads.of_own oh3) HS).mono ?_
            rintro e w6 ⟨rfl, rfl⟩
            go_wp2
            go_roundw
            case rel => exact ⟨k + 1, by omega, by go_num, _, _, HS, hf3, oh3, K3⟩
            case measure => simp [intOf]; omega
          · have L0 : ¬ L = 0 := hL0
            have E1 : (((listN L 32).length : Int) == 0) = false := by rw [HX.len0]; simp [L0]
            have A0 : ¬ s &&& L = 0 := hA0
            have E2 : (((h.filter (fun y => decide (y ∈ listN L 32))).length : Int) == 0) = false := by rw [(HS.both HX).len0]; simp [A0]
            have E3 : anyE s L = 0 := by simp [anyE, L0, A0]
            have HL0 := Lib.hid L0
            have HA0 := Lib.hid A0
            clear L0 hL0 A0 hA0
            go_wp2_with fail
            refine (fany_any w.heap.size s L _ HS.lt hL.out hf3).mono ?_
            rintro e w4 ⟨rfl, rfl⟩
            go_wp2_with fail
            refine (of_set (Reads.of_own og3) (HS.both HX)).mono ?_
            rintro e w6 ⟨rfl, rfl⟩
            go_wp2_with fail
            refine (fall_any w.heap.size _ _ hf3).mono ?_
            rintro e w6 ⟨rfl, rfl⟩
            go_wp2_with fail
            refine (of_set (Reads.of_own oh3) HS).mono ?_
            rintro e w6 ⟨rfl, rfl⟩
            go_wp2
            go_roundw
            case rel => exact ⟨k + 1, by omega, by go_num, _, _, HS, hf3, oh3, K3⟩
            case measure => simp [intOf]; omega
      by_cases q4 : (kind.tmod 6 + 6) % 6 = 4
      · by_cases hL0 : L = 0
        · have L0 := hL0
          have E1 : (((listN L 32).length : Int) == 0) = true := by rw [HX.len0]; simp [L0]
          have A0 : s &&& L = L := by rw [L0]; simp
          have E4 : (((h.filter (fun y => decide (y ∈ listN L 32))).length : Int) == ((listN L 32).length : Int)) = true := by have := HS.whole HX; rw [Bool.eq_iff_iff]; simp; exact_mod_cast this.2 A0
          have E3 : everyE s L = 280 := by simp [everyE, L0]
          have E5 : everyN s L = 0 := by simp [everyN, L0]
          have HL0 := Lib.hid L0
          have HA0 := Lib.hid A0
          have HE5 := Lib.hid E5
          clear L0 hL0 A0 E5
          go_wp2_with fail
          refine (fevery_any w.heap.size s L _ HS.lt hL.out hf3).mono ?_
          rintro e w4 ⟨rfl, rfl⟩
          rw [HE5.out]
          go_wp2_with fail
          refine (of_set Reads.none_ IsSet.nil).mono ?_
          rintro e w6 ⟨rfl, rfl⟩
          go_wp2_with fail
          refine (fall_any w.heap.size _ _ hf3).mono ?_
          rintro e w6 ⟨rfl, rfl⟩
          go_wp2_with fail
          refine (of_set (Reads.of_own oh3) HS).mono ?_
          rintro e w6 ⟨rfl, rfl⟩
          go_wp2
          go_roundw
          case rel => exact ⟨k + 1, by omega, by go_num, _, _, HS, hf3, oh3, K3⟩
          case measure => simp [intOf]; omega
        · by_cases hA0 : s &&& L = L
          · have L0 : ¬ L = 0 := hL0
            have E1 : (((listN L 32).length : Int) == 0) = false := by rw [HX.len0]; simp [L0]
            have A0 : s &&& L = L := hA0
            have E4 : (((h.filter (fun y => decide (y ∈ listN L 32))).length : Int) == ((listN L 32).length : Int)) = true := by have := HS.whole HX; rw [Bool.eq_iff_iff]; simp; exact_mod_cast this.2 A0
            have E3 : everyE s L = 0 := by simp [everyE, L0, A0]
            have E5 : everyN s L = L := by simp [everyN, A0]
            have HL0 := Lib.hid L0
            have HA0 := Lib.hid A0
            have HE5 := Lib.hid E5
            clear L0 hL0 A0 E5 hA0
            go_wp2_with fail
            refine (fevery_any w.heap.size s L _ HS.lt hL.out hf3).mono ?_
            rintro e w4 ⟨rfl, rfl⟩
            rw [HE5.out]
            go_wp2_with fail
            refine (of_set (Reads.of_own ox3) HX).mono ?_
            rintro e w6 ⟨rfl, rfl⟩
            go_wp2_with fail
            refine (fall_any w.heap.size _ _ hf3).mono ?_
            rintro e w6 ⟨rfl, rfl⟩
            go_wp2_with fail
            refine (of_set (Reads.of_own oh3) HS).mono ?_
            rintro e w6 ⟨rfl, rfl⟩
            go_wp2
            go_roundw
            case rel => exact ⟨k + 1, by omega, by go_num, _, _, HS, hf3, oh3, K3⟩
            case measure => simp [intOf]; omega
          · have L0 : ¬ L = 0 := hL0
            have E1 : (((listN L 32).length : Int) == 0) = false := by rw [HX.len0]; simp [L0]
            have A0 : ¬ s &&& L = L := hA0
            have E4 : (((h.filter (fun y => decide (y ∈ listN L 32))).length : Int) == ((listN L 32).length : Int)) = false := by have := HS.whole HX; rw [← Bool.not_eq_true]; simp; exact fun e => A0 (this.1 (by exact_mod_cast e))
            have E3 : everyE s L = 270 := by simp [everyE, L0, A0]
            have E5 : everyN s L = 0 := by simp [everyN, A0]
            have HL0 := Lib.hid L0
            have HA0 := Lib.hid A0
            have HE5 := Lib.hid E5
            clear L0 hL0 A0 E5 hA0
            go_wp2_with fail
            refine (fevery_any w.heap.size s L _ HS.lt hL.out hf3).mono ?_
            rintro e w4 ⟨rfl, rfl⟩
            rw [HE5.out]
            go_wp2_with fail
            refine (of_set Reads.none_ IsSet.nil).mono ?_
            rintro e w6 ⟨rfl, rfl⟩
            go_wp2_with fail
            refine (fall_any w.heap.size _ _ hf3).mono ?_
            rintro e w6 ⟨rfl, rfl⟩
            go_wp2_with fail
            refine (of_set (Reads.of_own oh3) HS).mono ?_
            rintro e w6 ⟨rfl, rfl⟩
            go_wp2
            go_roundw
            case rel => exact ⟨k + 1, by omega, by go_num, _, _, HS, hf3, oh3, K3⟩
            case measure => simp [intOf]; omega
      by_cases q5 : (kind.tmod 6 + 6) % 6 = 5
      · by_cases hL0 : L = 0
        · have L0 := hL0
          have E1 : (((listN L 32).length : Int) == 0) = true := by rw [HX.len0]; simp [L0]
          have A0 : s &&& L = 0 := by rw [L0]; simp
          have E2 : (((h.filter (fun y => decide (y ∈ listN L 32))).length : Int) == 0) = true := by rw [(HS.both HX).len0]; simp [A0]
          have E3 : anyE s L = 280 := by simp [anyE, L0]
          have HL0 := Lib.hid L0
          have HA0 := Lib.hid A0
          clear L0 hL0 A0
          go_wp2_with fail
          refine (ftake_any w.heap.size s L _ HS.lt hL.out hf3).mono ?_
          rintro e w4 ⟨rfl, hf4, k4⟩
          rw [HA0.out]
          have oh4 := own_keep oh3 k4 (fun g hg => by have := own_blk_ne oh3 hf3 (by decide); rw [hg] at this; simpa using this)
          have ox4 := own_keep ox3 k4 (fun g hg => by have := own_blk_ne ox3 hf3 (by decide); rw [hg] at this; simpa using this)
          have og4 := own_keep og3 k4 (fun g hg => by have := own_blk_ne og3 hf3 (by decide); rw [hg] at this; simpa using this)
          have hc0' := (k4.cell (p := ⟨b, o + k * 2, none⟩) (World.block_lt_of_cell? _ _ hc0) (by simp; omega)).trans hc0
          have K4 := K3.trans k4 (by simp)
          clear hc0 hc1 hf3 oh3 ox3 og3 K3 k4
          go_wp2_with fail
          refine (without_any _ _ _ _ _ _ h (listN L 32) _ (Reads.of_own oh4) (Reads.of_own ox4) (Nat.le_trans HS.le (by decide)) (Nat.le_trans HX.le (by decide))).mono ?_
          rintro e w5 ⟨Av, cv, rfl, ov, k5⟩
          have hc0 := (k5.cell (p := ⟨b, o + k * 2, none⟩) (World.block_lt_of_cell? _ _ hc0') (by simp)).trans hc0'
          have hf5 := Blk.keep0 hf4 k5
          have K5 := K4.then k5
          have ov' := own_base ov K4.size
          go_wp2_with fail
          refine (of_set Reads.none_ IsSet.nil).mono ?_
          rintro e w6 ⟨rfl, rfl⟩
          go_wp2_with fail
          refine (fall_any w.heap.size _ _ hf5).mono ?_
          rintro e w6 ⟨rfl, rfl⟩
          go_wp2_with fail
          refine (of_set (Reads.of_own ov) (HS.without HX)).mono ?_
          rintro e w6 ⟨rfl, rfl⟩
          go_wp2
          go_roundw
          case rel => exact ⟨k + 1, by omega, by go_num, _, _, (HS.without HX), hf5, ov', K5⟩
          case measure => simp [intOf]; omega
        · by_cases hA0 : s &&& L = 0
          · have L0 : ¬ L = 0 := hL0
            have E1 : (((listN L 32).length : Int) == 0) = false := by rw [HX.len0]; simp [L0]
            have A0 : s &&& L = 0 := hA0
            have E2 : (((h.filter (fun y => decide (y ∈ listN L 32))).length : Int) == 0) = true := by rw [(HS.both HX).len0]; simp [A0]
            have E3 : anyE s L = 270 := by simp [anyE, L0, A0]
            have HL0 := Lib.hid L0
            have HA0 := Lib.hid A0
            clear L0 hL0 A0 hA0
            go_wp2_with fail
            refine (ftake_any w.heap.size s L _ HS.lt hL.out hf3).mono ?_
            rintro e w4 ⟨rfl, hf4, k4⟩
            have oh4 := own_keep oh3 k4 (fun g hg => by have := own_blk_ne oh3 hf3 (by decide); rw [hg] at this; simpa using this)
            have ox4 := own_keep ox3 k4 (fun g hg => by have := own_blk_ne ox3 hf3 (by decide); rw [hg] at this; simpa using this)
            have og4 := own_keep og3 k4 (fun g hg => by have := own_blk_ne og3 hf3 (by decide); rw [hg] at this; simpa using this)
            have hc0' := (k4.cell (p := ⟨b, o + k * 2, none⟩) (World.block_lt_of_cell? _ _ hc0) (by simp; omega)).trans hc0
            have K4 := K3.trans k4 (by simp)
            clear hc0 hc1 hf3 oh3 ox3 og3 K3 k4
            go_wp2_with fail
            refine (without_any _ _ _ _ _ _ h (listN L 32) _ (Reads.of_own oh4) (Reads.of_own ox4) (Nat.le_trans HS.le (by decide)) (Nat.le_trans HX.le (by decide))).mono ?_
            rintro e w5 ⟨Av, cv, rfl, ov, k5⟩
            have hc0 := (k5.cell (p := ⟨b, o + k * 2, none⟩) (World.block_lt_of_cell? _ _ hc0') (by simp)).trans hc0'
            have hf5 := Blk.keep0 hf4 k5
            have K5 := K4.then k5
            have ov' := own_base ov K4.size
            go_wp2_with fail
            refine (of_set (Reads.of_own (own_keep0 og4 k5)) (HS.both HX)).mono ?_
            rintro e w6 ⟨rfl, rfl⟩
            go_wp2_with fail
            refine (fall_any w.heap.size _ _ hf5).mono ?_
            rintro e w6 ⟨rfl, rfl⟩
            go_wp2_with fail
            refine (of_set (Reads.of_own ov) (HS.without HX)).mono ?_
            rintro e w6 ⟨rfl, rfl⟩
            go_wp2
            go_roundw
            case rel => exact ⟨k + 1, by omega, by go_num, _, _, (HS.without HX), hf5, ov', K5⟩
            case measure => simp [intOf]; omega
          · have L0 : ¬ L = 0 := hL0
            have E1 : (((listN L 32).length : Int) == 0) = false := by rw [HX.len0]; simp [L0]
            have A0 : ¬ s &&& L = 0 := hA0
            have E2 : (((h.filter (fun y => decide (y ∈ listN L 32))).length : Int) == 0) = false := by rw [(HS.both HX).len0]; simp [A0]
            have E3 : anyE s L = 0 := by simp [anyE, L0, A0]
            have HL0 := Lib.hid L0
            have HA0 := Lib.hid A0
            clear L0 hL0 A0 hA0
            go_wp2_with fail
            refine (ftake_any w.heap.size s L _ HS.lt hL.out hf3).mono ?_
            rintro e w4 ⟨rfl, hf4, k4⟩
            have oh4 := own_keep oh3 k4 (fun g hg => by have := own_blk_ne oh3 hf3 (by decide); rw [hg] at this; simpa using this)
            have ox4 := own_keep ox3 k4 (fun g hg => by have := own_blk_ne ox3 hf3 (by decide); rw [hg] at this; simpa using this)
            have og4 := own_keep og3 k4 (fun g hg => by have := own_blk_ne og3 hf3 (by decide); rw [hg] at this; simpa using this)
            have hc0' := (k4.cell (p := ⟨b, o + k * 2, none⟩) (World.block_lt_of_cell? _ _ hc0) (by simp; omega)).trans hc0
            have K4 := K3.trans k4 (by simp)
            clear hc0 hc1 hf3 oh3 ox3 og3 K3 k4
            go_wp2_with fail
            refine (without_any _ _ _ _ _ _ h (listN L 32) _ (Reads.of_own oh4) (Reads.of_own ox4) (Nat.le_trans HS.le (by decide)) (Nat.le_trans HX.le (by decide))).mono ?_
            rintro e w5 ⟨Av, cv, rfl, ov, k5⟩
            have hc0 := (k5.cell (p := ⟨b, o + k * 2, none⟩) (World.block_lt_of_cell? _ _ hc0') (by simp)).trans hc0'
            have hf5 := Blk.keep0 hf4 k5
            have K5 := K4.then k5
            have ov' := own_base ov K4.size
            go_wp2_with fail
            refine (of_set (Reads.of_own (own_keep0 og4 k5)) (HS.both HX)).mono ?_
            rintro e w6 ⟨rfl, rfl⟩
            go_wp2_with fail
            refine (fall_any w.heap.size _ _ hf5).mono ?_
            rintro e w6 ⟨rfl, rfl⟩
            go_wp2_with fail
            refine (of_set (Reads.of_own ov) (HS.without HX)).mono ?_
            rintro e w6 ⟨rfl, rfl⟩
            go_wp2
            go_roundw
            case rel => exact ⟨k + 1, by omega, by go_num, _, _, (HS.without HX), hf5, ov', K5⟩
            case measure => simp [intOf]; omega
      by_cases hL0 : L = 0
      · have L0 := hL0
        have E1 : (((listN L 32).length : Int) == 0) = true := by rw [HX.len0]; simp [L0]
        have E3 : flagE L = 280 := by simp [flagE, L0]
        have HL0 := Lib.hid L0
        clear L0 hL0
        go_wp2_with fail
        refine (fset_any w.heap.size s L _ HS.lt hL.out hf3).mono ?_
        rintro e w4 ⟨rfl, hf4, k4⟩
        have oh4 := own_keep oh3 k4 (fun g hg => by have := own_blk_ne oh3 hf3 (by decide); rw [hg] at this; simpa using this)
        have ox4 := own_keep ox3 k4 (fun g hg => by have := own_blk_ne ox3 hf3 (by decide); rw [hg] at this; simpa using this)
        have og4 := own_keep og3 k4 (fun g hg => by have := own_blk_ne og3 hf3 (by decide); rw [hg] at this; simpa using this)
        have hc0' := (k4.cell (p := ⟨b, o + k * 2, none⟩) (World.block_lt_of_cell? _ _ hc0) (by simp; omega)).trans hc0
        have K4 := K3.trans k4 (by simp)
        clear hc0 hc1 hf3 oh3 ox3 og3 K3 k4
        go_wp2_with fail
        refine (without_any _ _ _ _ _ _ (listN L 32) h _ (Reads.of_own ox4) (Reads.of_own oh4) (Nat.le_trans HX.le (by decide)) (Nat.le_trans HS.le (by decide))).mono ?_
        rintro e w5 ⟨Av, cv, rfl, ov, k5⟩
        have hc0 := (k5.cell (p := ⟨b, o + k * 2, none⟩) (World.block_lt_of_cell? _ _ hc0') (by simp)).trans hc0'
        have hf5 := Blk.keep0 hf4 k5
        have oh5 := own_keep0 oh4 k5
        have K5 := K4.then k5
        have LE := (HS.join HX).le
        rw [List.length_append] at LE
        have LE' := Lib.hid LE
        clear LE
        go_wp2_with (at_builtin; refine wpList_append_reads rfl (.tmp 49) (.tmp 52) 28 rfl slice_int oh5 rfl (Reads.of_own ov) rfl (ints_one _) K5.size (by have := LE'.out; omega) (by have := LE'.out; unfold maxLen; omega) ?_; intro v6 w6 o6 k6 hat6; have hc6 := (k6.cell (p := ⟨b, o + k * 2, none⟩) (World.block_lt_of_cell? _ _ hc0) (fun hx => by have := oh5.lt b (by simpa using hx); omega)).trans hc0; obtain ⟨A6, c6, rfl⟩ := own_shape o6)
        have o6' : w6.ownsRow w.heap.size 3 1 (.slice A6 (h.length + ((listN L 32).filter (fun y => !decide (y ∈ h))).length) c6) (h ++ (listN L 32).filter (fun y => !decide (y ∈ h))).length (ints (h ++ (listN L 32).filter (fun y => !decide (y ∈ h)))) := by
          rw [List.length_append, ints, List.map_append]; exact o6
        have r6 : Reads w6 1 A6 (h.length + ((listN L 32).filter (fun y => !decide (y ∈ h))).length) (ints (h ++ (listN L 32).filter (fun y => !decide (y ∈ h)))) := by
          rw [ints, List.map_append]; exact Reads.of_own o6
        have hf6 := Blk.keep hf5 k6 (fun hx => by have := own_blk_ne oh5 hf5 (by decide); exact this (by simpa using hx))
        have K6 := K5.trans k6 (fun g hg hlt => by have := oh5.lt g (by simpa using hg); omega)
        go_wp2_with fail
        refine (of_set Reads.none_ IsSet.nil).mono ?_
        rintro e w6 ⟨rfl, rfl⟩
        go_wp2_with fail
        refine (fall_any w.heap.size _ _ hf6).mono ?_
        rintro e w6 ⟨rfl, rfl⟩
        go_wp2_with fail
        refine (of_set r6 (HS.join HX)).mono ?_
        rintro e w6 ⟨rfl, rfl⟩
        go_wp2
        go_roundw
        case rel => exact ⟨k + 1, by omega, by go_num, _, _, (HS.join HX), hf6, o6', K6⟩
        case measure => simp [intOf]; omega
      · have L0 : ¬ L = 0 := hL0
        have E1 : (((listN L 32).length : Int) == 0) = false := by rw [HX.len0]; simp [L0]
        have E3 : flagE L = 0 := by simp [flagE, L0]
        have HL0 := Lib.hid L0
        clear L0 hL0
        go_wp2_with fail
        refine (fset_any w.heap.size s L _ HS.lt hL.out hf3).mono ?_
        rintro e w4 ⟨rfl, hf4, k4⟩
        have oh4 := own_keep oh3 k4 (fun g hg => by have := own_blk_ne oh3 hf3 (by decide); rw [hg] at this; simpa using this)
        have ox4 := own_keep ox3 k4 (fun g hg => by have := own_blk_ne ox3 hf3 (by decide); rw [hg] at this; simpa using this)
        have og4 := own_keep og3 k4 (fun g hg => by have := own_blk_ne og3 hf3 (by decide); rw [hg] at this; simpa using this)
        have hc0' := (k4.cell (p := ⟨b, o + k * 2, none⟩) (World.block_lt_of_cell? _ _ hc0) (by simp; omega)).trans hc0
        have K4 := K3.trans k4 (by simp)
        clear hc0 hc1 hf3 oh3 ox3 og3 K3 k4
        go_wp2_with fail
        refine (without_any _ _ _ _ _ _ (listN L 32) h _ (Reads.of_own ox4) (Reads.of_own oh4) (Nat.le_trans HX.le (by decide)) (Nat.le_trans HS.le (by decide))).mono ?_
        rintro e w5 ⟨Av, cv, rfl, ov, k5⟩
        have hc0 := (k5.cell (p := ⟨b, o + k * 2, none⟩) (World.block_lt_of_cell? _ _ hc0') (by simp)).trans hc0'
        have hf5 := Blk.keep0 hf4 k5
        have oh5 := own_keep0 oh4 k5
        have K5 := K4.then k5
        have LE := (HS.join HX).le
        rw [List.length_append] at LE
        have LE' := Lib.hid LE
        clear LE
        go_wp2_with (at_builtin; refine wpList_append_reads rfl (.tmp 49) (.tmp 52) 28 rfl slice_int oh5 rfl (Reads.of_own ov) rfl (ints_one _) K5.size (by have := LE'.out; omega) (by have := LE'.out; unfold maxLen; omega) ?_; intro v6 w6 o6 k6 hat6; have hc6 := (k6.cell (p := ⟨b, o + k * 2, none⟩) (World.block_lt_of_cell? _ _ hc0) (fun hx => by have := oh5.lt b (by simpa using hx); omega)).trans hc0; obtain ⟨A6, c6, rfl⟩ := own_shape o6)
        have o6' : w6.ownsRow w.heap.size 3 1 (.slice A6 (h.length + ((listN L 32).filter (fun y => !decide (y ∈ h))).length) c6) (h ++ (listN L 32).filter (fun y => !decide (y ∈ h))).length (ints (h ++ (listN L 32).filter (fun y => !decide (y ∈ h)))) := by
          rw [List.length_append, ints, List.map_append]; exact o6
        have r6 : Reads w6 1 A6 (h.length + ((listN L 32).filter (fun y => !decide (y ∈ h))).length) (ints (h ++ (listN L 32).filter (fun y => !decide (y ∈ h)))) := by
          rw [ints, List.map_append]; exact Reads.of_own o6
        have hf6 := Blk.keep hf5 k6 (fun hx => by have := own_blk_ne oh5 hf5 (by decide); exact this (by simpa using hx))
        have K6 := K5.trans k6 (fun g hg hlt => by have := oh5.lt g (by simpa using hg); omega)
        go_wp2_with fail
        refine (of_set Reads.none_ IsSet.nil).mono ?_
        rintro e w6 ⟨rfl, rfl⟩
        go_wp2_with fail
        refine (fall_any w.heap.size _ _ hf6).mono ?_
        rintro e w6 ⟨rfl, rfl⟩
        go_wp2_with fail
        refine (of_set r6 (HS.join HX)).mono ?_
        rintro e w6 ⟨rfl, rfl⟩
        go_wp2
        go_roundw
        case rel => exact ⟨k + 1, by omega, by go_num, _, _, (HS.join HX), hf6, o6', K6⟩
        case measure => simp [intOf]; omega
    · go_wp2_with fail
      refine (alive28 _).mono ?_
      rintro e w1 ⟨rfl, k1⟩
      have K := hown.2.then k1
      go_wp2
      go_ret
      exact ⟨rfl, K⟩

end Go.Proofs.Ytgonnddgljgghaa
