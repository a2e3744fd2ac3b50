/- The chapter's example of a table (layer 53's alive). No condition. -/
import Derived.Test.YteocldlglklnjaaDoorShTab
namespace Go.Proofs.YteocldlglklnjaaDoor
open Go.RowKit
attribute [local go_sem] Oper.semAt_some

theorem svalues_any (A : Option Addr) (n c : Nat) (w : World) : Calls Tryd.prog 39 #[.slice A n c] w fun e w' =>
    e = .returned (.func (.func 60) #[] #[.pointer (some ⟨w.heap.size, 0, none⟩)]) ∧ w.alloc (.cells #[.slice A n c] 62) = w' := by
  go_enter Tryd.func39, Tryd.ntmps39
  go_wp2
  go_ret
  exact ⟨rfl, rfl⟩

set_option maxRecDepth 100000 in
set_option maxHeartbeats 4000000 in
theorem svalues1_seq (n : Nat) (A : Option Addr) (cp : Nat) (vs : List Value) (ll : List (List ByteArray)) (w0 w : World) (hA : Reads w0 1 A ll.length vs) (hT : TextsAt w0 vs ll) (hl : ll.length ≤ 100000) (hw0 : Below w0.heap.size w0 w) (B : Nat) (_hB : B < w0.heap.size)
    (hb : Blk w0 B 62 #[.slice A ll.length cp]) :
    SeqQ Fence.wide n Tryd.prog LoN 60 #[.pointer (some ⟨B, 0, none⟩)] (EncT id) (KpU UsS w0.heap.size (w.heap.size + 2)) ll w := by
  intro l J Jx W hW hge hJ hJx hY h0
  have hB0 : w0.heap.size ≤ W.heap.size := by have := hw0.size; omega
  have hlow : Below w0.heap.size w0 W := hw0.trans (hW.mono hw0.size)
  have hR0 : ∀ m pre (y : List ByteArray) W1 A cp, J pre W1 → pre ++ [y] <+: ll → TxtAt W1 A y → YieldAt Fence.wide m Tryd.prog l #[.slice A y.length cp] W1 fun e W' =>
      (e = .returned (.bool true) ∧ J (pre ++ [y]) W' ∧ KpU UsS w0.heap.size (w.heap.size + 2) W1 W') ∨ (e = .returned (.bool false) ∧ Jx (pre ++ [y]) W' ∧ KpU UsS w0.heap.size (w.heap.size + 2) W1 W') := fun m pre y W1 A cp hj hp hr => yieldAt_any open_wide (hY pre y W1 _ hj hp ⟨A, cp, rfl, hr⟩)
  clear hY
  have HKB : Hid (∀ w', Below w0.heap.size w0 w' → Keep [] w0 w') := fun w' h => keepB h
  have c0 : W.cell? ⟨B, 0, none⟩ = some (.slice A ll.length cp) := by
    have := (hb.keep0 (HKB.out W hlow)).cell 0
    simpa using this
  have HA := Lib.hid hA
  have HT := Lib.hid hT
  have HL := Lib.hid hl
  clear hA hT hb hl
  rw [callsIn_wide, ← callsIn_wide (n := 9)]
  refine callsIn_of_wp Tryd.func60 rfl trivial ?_ rfl
  simp only [Tryd.ntmps60, List.size_toArray, List.length_cons, List.length_nil, Nat.reduceAdd, Nat.reduceSub, Array.replicate_succ, Array.replicate_zero, List.push_toArray, List.append_toArray, List.nil_append, List.cons_append]
  gi_wp2
  gi_loopw [7] (fun vi wr => ∃ k : Nat, k ≤ ll.length ∧ vi = .int .i64 (k : Int) ∧ J (ll.take k) wr ∧ KpU UsS w0.heap.size (w.heap.size + 2) W wr) (fun i _ => ll.length - (intOf i).toNat)
  case atStart => exact ⟨0, Nat.zero_le _, rfl, by simpa using h0, KpU.refl _⟩
  case round =>
    clear h0 c0
    obtain ⟨k, hk, rfl, hj, hkr⟩ := hrel
    have hl := HL.out
    by_cases hlt : k < ll.length
    · have HK := HKB.out wr (hlow.trans hkr.below)
      obtain ⟨b1, o1, u, e1, hb1, hu, hc⟩ := (HA.out.keep0 HK).at_ hlt
      obtain ⟨Ak, ck, e2, ht⟩ := (HT.out.keep0 HK).at_ k hlt
      rw [hu] at e2
      cases e2
      have hk0 : (0 : Int) ≤ (k : Int) := by omega
      have hk1 : (k : Int) < (ll.length : Int) := by omega
      have hp3 : ll.take k ++ [ll[k]] <+: ll := by rw [← List.take_succ_eq_append_getElem hlt]; exact List.take_prefix _ _
      have HSJ := Lib.hid (List.take_succ_eq_append_getElem hlt)
      rw [e1]
      obtain ⟨fn, tmps, assign, body, hy, hR⟩ := hR0 8 _ ll[k] wr Ak ck hj hp3 ht
      have HP3 := Lib.hid hp3
      have HKR := Lib.hid hkr
      clear ht hp3 hu hj hkr
      generalize ll[k] = L at *
      gi_wp2
      refine hR.mono ?_
      rintro e w5 (⟨rfl, j4, kr⟩ | ⟨rfl, jx, kr⟩)
      rotate_left
      · gi_wp2
        refine bodyPost_ret (results_none rfl _ _ _) rfl ?_
        exact ⟨⟨_, rfl⟩, .inr ⟨_, HP3.out, jx⟩⟩
      have k4 := HKR.out.trans kr
      clear hy hR
      gi_wp2
      go_roundw
      case rel => exact ⟨k + 1, by omega, by go_num, by rw [HSJ.out]; exact j4, k4⟩
      case measure => simp [intOf] <;> omega
    · obtain rfl : k = ll.length := by omega
      gi_wp2
      go_end0
      refine ⟨⟨_, rfl⟩, .inl ?_⟩
      rwa [List.take_length] at hj
def exHead : List ByteArray := [⟨#[97]⟩, ⟨#[98, 98]⟩]
def exRow : List ByteArray := [⟨#[49, 48, 48]⟩, ⟨#[50]⟩]
theorem exTable : tableT (exHead :: [exRow].map id) 2 = [32, 32, 97, 32, 32, 98, 98, 10, 49, 48, 48, 32, 32, 32, 50, 10] := by kernel_rfl
set_option maxRecDepth 100000 in
set_option maxHeartbeats 4000000 in
theorem alive53 (w : World) : Calls Tryd.prog 18 #[] w fun e w' => e = .returned (.bool true) ∧ Keep [] w w' := by
  obtain ⟨W0, hW0⟩ : ∃ W0, ((w.alloc (.cells #[.string ⟨#[97]⟩, .string ⟨#[98, 98]⟩] 9)).alloc (.cells #[.string ⟨#[49, 48, 48]⟩, .string ⟨#[50]⟩] 9)).alloc (.cells #[.slice (some ⟨w.heap.size + 1, 0, none⟩) 2 2] 55) = W0 := ⟨_, rfl⟩
  have b0 : Blk W0 w.heap.size 9 (strsV exHead).toArray := by rw [← hW0]; exact ((Blk.new _ _ _).alloc _).alloc _
  have b1 : Blk W0 (w.heap.size + 1) 9 (strsV exRow).toArray := by rw [← hW0]; exact (Blk.new1 _ _ _ _).alloc _
  have b2 : Blk W0 (w.heap.size + 2) 55 [.slice (some ⟨w.heap.size + 1, 0, none⟩) 2 2].toArray := by rw [← hW0]; exact Blk.new2 _ _ _ _ _
  have K0 : Keep [] w W0 := by rw [← hW0]; exact (((Keep.refl [] w).alloc _).alloc _).alloc _
  have hz0 : W0.heap.size = w.heap.size + 3 := by rw [← hW0]; simp
  obtain ⟨W1, hW1⟩ : ∃ W1, W0.alloc (.cells #[.slice (some ⟨w.heap.size + 2, 0, none⟩) 1 1] 62) = W1 := ⟨_, rfl⟩
  have K1 : Keep [] W0 W1 := by rw [← hW1]; exact (Keep.refl [] W0).alloc _
  have d3 : Blk W1 (w.heap.size + 3) 62 #[.slice (some ⟨w.heap.size + 2, 0, none⟩) ([exRow] : List (List ByteArray)).length 1] := by rw [← hW1, ← hz0]; exact Blk.new _ _ _
  have hz1 : W1.heap.size = w.heap.size + 4 := by rw [← hW1]; simp; omega
  have t0 : TxtAt W1 (some ⟨w.heap.size, 0, none⟩) exHead := ⟨reads_blk (b0.keep0 K1), fun _ => ⟨_, _, _, _, rfl, b0.keep0 K1⟩⟩
  have t1 : TxtAt W1 (some ⟨w.heap.size + 1, 0, none⟩) exRow := ⟨reads_blk (b1.keep0 K1), fun _ => ⟨_, _, _, _, rfl, b1.keep0 K1⟩⟩
  have hT : TextsAt W1 [.slice (some ⟨w.heap.size + 1, 0, none⟩) 2 2] [exRow] := (TextsAt.nil W1).snoc (c := 2) t1
  have hrd : Reads W1 1 (some ⟨w.heap.size + 2, 0, none⟩) ([exRow] : List (List ByteArray)).length [.slice (some ⟨w.heap.size + 1, 0, none⟩) 2 2] := reads_blk (b2.keep0 K1)
  have HTab : Hid (Calls Tryd.prog 38 #[.slice (some ⟨w.heap.size, 0, none⟩) 2 2, .func (.func 60) #[] #[.pointer (some ⟨w.heap.size + 3, 0, none⟩)]] W1 fun e w' => ∃ S : ByteArray, e = .returned (.string S) ∧ bytesOf S = tableT (exHead :: [exRow].map id) exHead.length ∧ Keep [] W1 w') :=
    table_any id [exRow] (some ⟨w.heap.size, 0, none⟩) 2 exHead 60 #[.pointer (some ⟨w.heap.size + 3, 0, none⟩)] W1.heap.size W1 (Nat.le_refl _) (by simp) (by decide) t0 (by simp [exRow]) (by rw [show exHead.length = 2 from rfl, exTable]; decide) (enters_of Tryd.func60 (by kernel_rfl) rfl)
      (fun W k => svalues1_seq 8 (some ⟨w.heap.size + 2, 0, none⟩) 1 _ [exRow] W1 W hrd hT (by simp) k.below (w.heap.size + 3) (by omega) d3)
  rw [show exHead.length = 2 from rfl, exTable] at HTab
  have HV := Lib.hid (svalues_any (some ⟨w.heap.size + 2, 0, none⟩) 1 1 W0)
  rw [hW1, hz0] at HV
  have HW := Lib.hid hW0
  have HK1 := Lib.hid (K0.then K1)
  clear hW0 hW1 b0 b1 b2 K0 K1 d3 t0 t1 hT hrd hz0 hz1
  go_enter Tryd.func18, Tryd.ntmps18
  go_wp2_with (first | rw [HW.out])
  refine HV.out.mono ?_
  rintro e w1 ⟨rfl, rfl⟩
  go_wp2_with fail
  refine HTab.out.mono ?_
  rintro e w2 ⟨S, rfl, hS, k2⟩
  have t1 : (S.toList == [32, 32, 97, 32, 32, 98, 98, 10, 49, 48, 48, 32, 32, 32, 50, 10]) = true := by rw [ByteArray.toList_eq]; show (bytesOf S == _) = true; rw [hS]; rfl
  have t2 : ((⟨#[32, 32, 97, 32, 32, 98, 98, 10, 49, 48, 48, 32, 32, 32, 50, 10]⟩ : ByteArray).toList) = [32, 32, 97, 32, 32, 98, 98, 10, 49, 48, 48, 32, 32, 32, 50, 10] := by rw [ByteArray.toList_eq]
  have hk := HK1.out.then k2
  clear hS
  go_wp2
  go_ret
  exact ⟨rfl, hk⟩
end Go.Proofs.YteocldlglklnjaaDoor
