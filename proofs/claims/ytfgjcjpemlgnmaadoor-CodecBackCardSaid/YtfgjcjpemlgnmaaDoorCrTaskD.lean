/- The document's task; walked. No condition. -/
import Derived.Test.YtfgjcjpemlgnmaaDoorCrAt
namespace Go.Proofs.YtfgjcjpemlgnmaaDoor
open Go.RowKit

theorem testBit_tmR (s k : Nat) : ((((s : Int) / 2 ^ k).tmod 2 == 1) = true) ↔ s.testBit k = true := by
  have e : ((s : Int) / 2 ^ k).tmod 2 = ((s / 2 ^ k % 2 : Nat) : Int) := by
    rw [Int.tmod_eq_emod_of_nonneg (Int.ediv_nonneg (by omega) (by have : (0 : Int) < 2 ^ k := Int.pow_pos (by decide); omega))]
    norm_cast
  rw [e, Nat.testBit_eq_decide_div_mod_eq]
  simp only [beq_iff_eq, decide_eq_true_eq]
  constructor <;> intro h <;> omega
def tskF (l : List Int) (u : Nat) (i : Nat) (k : Nat) : List Int × Nat := (List.range k).foldl (fun p k => if u.testBit k = true then fillD l p k else p) (List.replicate 8 0, i)
theorem tskF_succ (l : List Int) (u i k : Nat) : tskF l u i (k + 1) = if u.testBit k = true then fillD l (tskF l u i k) k else tskF l u i k := by
  unfold tskF
  rw [List.range_succ, List.foldl_append]
  rfl
theorem tskF_len (l : List Int) (u i : Nat) : ∀ k, (tskF l u i k).1.length = 8 ∧ (tskF l u i k).2 ≤ i + k
  | 0 => ⟨rfl, Nat.le_refl _⟩
  | k + 1 => by
    obtain ⟨h1, h2⟩ := tskF_len l u i k
    rw [tskF_succ]
    split
    · exact ⟨by unfold fillD; rw [List.length_set, h1], by unfold fillD; dsimp only; omega⟩
    · exact ⟨h1, by omega⟩

set_option maxRecDepth 100000 in
set_option maxHeartbeats 1000000 in
theorem task_any11 (A : Option Addr) (c : Nat) (l : List Int) (i : Nat) (w : World) (h : WordsAt w A l) (hi : i ≤ 1000000) :
    Calls Tryd.prog 28 #[.slice A l.length c, .int .i64 (i : Int)] w fun e w' =>
      e = .returned (.tuple #[.agg (tskCells (taskD l i).1).toArray, .int .i64 ((taskD l i).2 : Int)]) ∧ Keep [] w w' := by
  have hu := atD_in h.lt (i + 3)
  obtain ⟨u, hu0⟩ : ∃ u : Nat, atD l (i + 3) = (u : Int) := ⟨(atD l (i + 3)).toNat, by omega⟩
  have HT : Hid (taskD l i = (⟨atD l i, atD l (i + 1), atD l (i + 2), (tskF l u (i + 4) 8).1⟩, (tskF l u (i + 4) 8).2)) := by
    show _ = _
    unfold taskD tskF
    rw [hu0]
    rfl
  have HN := fun W (j : Nat) (z : Int) (hz : z = (j : Int)) (k : Keep [] w W) => Lib.hid (show Calls Tryd.prog 27 #[.slice A l.length c, .int .i64 z] W fun e w' => e = .returned (.int .i64 (atD l j)) ∧ W = w' from by rw [hz]; exact at_any11 A c l j W (h.keep0 k))
  obtain ⟨W0, hW0⟩ : ∃ W0, w.alloc (.cells #[.int .i64 0, .int .i64 0, .int .i64 0, .int .i64 0, .int .i64 0, .int .i64 0, .int .i64 0, .int .i64 0, .int .i64 0, .int .i64 0, .int .i64 0] 57) = W0 := ⟨_, rfl⟩
  have K0 : Keep [] w W0 := by rw [← hW0]; exact (Keep.refl _ w).alloc _
  have s0 : Blk W0 w.heap.size 57 #[.int .i64 0, .int .i64 0, .int .i64 0, .int .i64 0, .int .i64 0, .int .i64 0, .int .i64 0, .int .i64 0, .int .i64 0, .int .i64 0, .int .i64 0] := by rw [← hW0]; exact Blk.new _ _ _
  have HW0 := Lib.hid hW0
  obtain ⟨a0, ha0⟩ : ∃ a, atD l i = a := ⟨_, rfl⟩
  obtain ⟨a1, ha1⟩ : ∃ a, atD l (i + 1) = a := ⟨_, rfl⟩
  obtain ⟨a2, ha2⟩ : ∃ a, atD l (i + 2) = a := ⟨_, rfl⟩
  have n0 := HN W0 i (i : Int) rfl K0
  have n1 := HN W0 (i + 1) ((i : Int) + 1) (by omega) K0
  have n2 := HN W0 (i + 2) ((i : Int) + 2) (by omega) K0
  have hzw := s0.lt
  rw [ha0] at n0
  rw [ha1] at n1
  rw [ha2] at n2
  rw [ha0, ha1, ha2] at HT
  clear hW0 ha0 ha1 ha2 hu
  generalize hll : l.length = ll at *
  go_enter Tryd.func28, Tryd.ntmps28
  go_wp2_with (rw [HW0.out])
  refine n0.out.mono ?_
  rintro e w1 ⟨rfl, rfl⟩
  go_wp2_with fail
  refine n1.out.mono ?_
  rintro e w1 ⟨rfl, rfl⟩
  go_wp2_with fail
  refine n2.out.mono ?_
  rintro e w1 ⟨rfl, rfl⟩
  go_wp2_with (refine stop_store 57 (.tmp 6) (.tmp 20) rfl ?_)
  constructor
  refine wpList_store_all rfl 57 (.tmp 6) (.tmp 20) rfl rfl rfl (vs := [.int .i64 a0, .int .i64 a1, .int .i64 a2, .int .i64 0, .int .i64 0, .int .i64 0, .int .i64 0, .int .i64 0, .int .i64 0, .int .i64 0, .int .i64 0]) agg_task.2 (Blk.new _ _ _) (by simp [Value.oneCell']) rfl ?_
  intro w4 d4 k4
  obtain ⟨g, hg⟩ : ∃ g, g = W0.heap.size := ⟨_, rfl⟩
  rw [← hg] at d4 ⊢
  have k34 : Keep [] W0 w4 := ((Keep.refl [] W0).alloc (.cells #[.int .i64 0, .int .i64 0, .int .i64 0, .int .i64 0, .int .i64 0, .int .i64 0, .int .i64 0, .int .i64 0, .int .i64 0, .int .i64 0, .int .i64 0] 57)).trans k4 (fun y hy h => by simp at hy; omega)
  have hgz : w.heap.size < g := by omega
  have s4 := s0.keep0 k34
  have K4 := K0.then k34
  have n4 := HN w4 (i + 3) ((i : Int) + 3) (by omega) K4
  rw [hu0] at n4
  clear hg k34 k4 s0 K0 n0 n1 n2 hzw HW0
  go_wp2_with fail
  refine n4.out.mono ?_
  rintro e w5 ⟨rfl, rfl⟩
  have hd4 : Hid (Blk w4 g 57 (tskCells ⟨a0, a1, a2, (tskF l u (i + 4) 0).1⟩).toArray) := d4
  have HS4 := Lib.hid s4
  have HK4 := Lib.hid K4
  clear n4 d4 s4 K4
  go_wp2
  go_loopw [1, 8] (fun v1 v8 wr => ∃ k : Nat, k ≤ 8 ∧ v8 = .int .i64 (k : Int) ∧ v1 = .int .i64 ((tskF l u (i + 4) k).2 : Int) ∧ Blk wr g 57 (tskCells ⟨a0, a1, a2, (tskF l u (i + 4) k).1⟩).toArray ∧ Blk wr w.heap.size 57 #[.int .i64 0, .int .i64 0, .int .i64 0, .int .i64 0, .int .i64 0, .int .i64 0, .int .i64 0, .int .i64 0, .int .i64 0, .int .i64 0, .int .i64 0] ∧ Keep [] w wr) (fun _ v8 _ => 8 - (intOf v8).toNat)
  case atStart => exact ⟨0, by omega, rfl, (by show Value.int .i64 ((i : Int) + 4) = .int .i64 (((i + 4 : Nat)) : Int); rw [Int.natCast_add]; rfl), hd4.out, HS4.out, HK4.out⟩
  case round =>
    obtain ⟨k, hk, rfl, rfl, hb, hs, hkw⟩ := hrel
    by_cases hlt : k < 8
    · have hsc := tskF_succ l u (i + 4) k
      obtain ⟨hl8, hp⟩ := tskF_len l u (i + 4) k
      generalize tskF l u (i + 4) k = F at *
      obtain ⟨lon, p⟩ := F
      dsimp only at hb hl8 hp
      have HSC := Lib.hid hsc
      have HB := Lib.hid hb
      have HS := Lib.hid hs
      have HKW := Lib.hid hkw
      have p0 : (0 : Int) ≤ (k : Int) := by omega
      have p1 : (k : Int) < 8 := by omega
      clear hsc hb hs hkw
      cases htb : u.testBit k
      · have hc : (((u : Int) / 2 ^ k).tmod 2 == 1) = false := by
          cases hq : (((u : Int) / 2 ^ k).tmod 2 == 1)
          · rfl
          · rw [(testBit_tmR u k).1 hq] at htb; cases htb
        have HE : Hid (tskF l u (i + 4) (k + 1) = (lon, p)) := by show _ = _; rw [HSC.out, htb]; rfl
        clear htb HSC
        go_wp2
        go_roundw
        case rel => exact ⟨k + 1, by omega, by go_num, by rw [HE.out], by rw [HE.out]; exact HB.out, HS.out, HKW.out⟩
        case measure => simp [intOf] <;> omega
      · have hc : (((u : Int) / 2 ^ k).tmod 2 == 1) = true := (testBit_tmR u k).2 htb
        have HE : Hid (tskF l u (i + 4) (k + 1) = (lon.set k (atD l p), p + 1)) := by show _ = _; rw [HSC.out, htb]; rfl
        have nn := HN wr p (p : Int) rfl HKW.out
        have gc : wr.cell? ⟨g, 3 + k, none⟩ = some (.int .i64 (lon[k]'(by omega))) := by rw [HB.out.cell]; exact tsk_at _ _ _ lon k (by omega)
        have gf := HB.out.frozen (3 + k)
        have hpz : p ≤ 1000100 := by omega
        generalize atD l p = v at *
        clear htb HSC
        go_wp2_with fail
        refine nn.out.mono ?_
        rintro e w6 ⟨rfl, rfl⟩
        have ks := keep_set wr g (3 + k) (.int .i64 v)
        have hb5 := HB.out.set_ (3 + k) (.int .i64 v)
        rw [tsk_set] at hb5
        have hs5 := HS.out.keep ks (by simp; omega)
        have hk5 := HKW.out.trans ks (fun y hy hlt => by simp at hy; omega)
        have H5 := Lib.hid (And.intro hb5 (And.intro hs5 hk5))
        clear ks hb5 hs5 hk5 nn
        go_wp2
        go_roundw
        case rel => exact ⟨k + 1, by omega, by go_num, by rw [HE.out]; go_num, by rw [HE.out]; exact H5.out.1, H5.out.2.1, H5.out.2.2⟩
        case measure => simp [intOf] <;> omega
    · obtain rfl : k = 8 := by omega
      have hl8 := (tskF_len l u (i + 4) 8).1
      generalize tskF l u (i + 4) 8 = F at *
      obtain ⟨lon, p⟩ := F
      dsimp only at hb hl8 HT
      have hcs := hb.cellsAt
      have HLT : Hid ((tskCells ⟨a0, a1, a2, lon⟩).length = 11) := tskCells_len hl8
      generalize (⟨a0, a1, a2, lon⟩ : Tsk) = tt at *
      go_wp2_with (first
        | (refine wpList_load_agg rfl 57 (.tmp 6) rfl rfl (cs := tskCells tt) (by rw [HLT.out]; exact agg_task) hcs ?_)
        | (refine stop_store 57 (.tmp 4) (.tmp 45) rfl ?_))
      constructor
      refine wpList_store_all rfl 57 (.tmp 4) (.tmp 45) rfl rfl rfl (by rw [HLT.out]; kernel_rfl) hs (iv_one _) (by rw [HLT.out]; rfl) ?_
      intro w5 d5 k5
      have hk5 := hkw.trans k5 (fun y hy hlt => by simp at hy; omega)
      clear hcs
      go_wp2
      refine bodyPost_ret (results_blk_tmpR rfl _ rfl rfl d5 (by rw [HLT.out]; exact agg_task)) rfl ?_
      rw [HT.out]
      exact ⟨rfl, hk5⟩
end Go.Proofs.YtfgjcjpemlgnmaaDoor
