/- The document's edge; walked. No condition. -/
import Derived.Test.YtfgjcjpemlgnmaaDoorCrTasks
namespace Go.Proofs.YtfgjcjpemlgnmaaDoor
open Go.RowKit

def mpD (l : List Int) (i k : Nat) : List Int := (List.range k).foldl (fun m j => m.set j (atD l (i + 3 + j))) (List.replicate 4 0)
theorem mpD_succ (l : List Int) (i k : Nat) : mpD l i (k + 1) = (mpD l i k).set k (atD l (i + 3 + k)) := by
  unfold mpD
  rw [List.range_succ, List.foldl_append]
  rfl
theorem mpD_len (l : List Int) (i : Nat) : ∀ k, (mpD l i k).length = 4
  | 0 => rfl
  | k + 1 => by rw [mpD_succ, List.length_set, mpD_len l i k]
theorem mpD_4 (l : List Int) (i : Nat) : mpD l i 4 = [atD l (i + 3), atD l (i + 4), atD l (i + 5), atD l (i + 6)] := rfl

def ofC (x : Img) (a b : Int) (k : Nat) : Bool := (setOf10 x b).testBit k && !(setOf10 x a).testBit k
def ofD (l : List Int) (x : Img) (a b : Int) (i k : Nat) : List Int × Nat := (List.range k).foldl (fun p k => if ofC x a b k = true then fillD l p k else p) (List.replicate 16 0, i)
theorem ofD_succ (l : List Int) (x : Img) (a b : Int) (i k : Nat) : ofD l x a b i (k + 1) = if ofC x a b k = true then fillD l (ofD l x a b i k) k else ofD l x a b i k := by
  unfold ofD
  rw [List.range_succ, List.foldl_append]
  rfl
theorem ofD_len (l : List Int) (x : Img) (a b : Int) (i : Nat) : ∀ k, (ofD l x a b i k).1.length = 16 ∧ (ofD l x a b i k).2 ≤ i + k
  | 0 => ⟨rfl, Nat.le_refl _⟩
  | k + 1 => by
    obtain ⟨h1, h2⟩ := ofD_len l x a b i k
    rw [ofD_succ]
    split
    · exact ⟨by unfold fillD; rw [List.length_set, h1], by unfold fillD; dsimp only; omega⟩
    · exact ⟨h1, by omega⟩

set_option maxRecDepth 100000 in
set_option maxHeartbeats 1000000 in
theorem edge_any11 (v : ImgV) (x : Img) (A : Option Addr) (c : Nat) (l : List Int) (i : Nat) (w : World) (h : WordsAt w A l) (hI : ImgAt w v x) (hi : i ≤ 1000000) :
    Calls Tryd.prog 30 #[.agg (imgCells v x).toArray, .slice A l.length c, .int .i64 (i : Int)] w fun e w' =>
      e = .returned (.tuple #[.agg (edgCells (edgeD l x i).1).toArray, .int .i64 ((edgeD l x i).2 : Int)]) ∧ Keep [] w w' := by
  have HN := fun W (j : Nat) (z : Int) (hz : z = (j : Int)) (k : Keep [] w W) => Lib.hid (show Calls Tryd.prog 27 #[.slice A l.length c, .int .i64 z] W fun e w' => e = .returned (.int .i64 (atD l j)) ∧ W = w' from by rw [hz]; exact at_any11 A c l j W (h.keep0 k))
  have HTK := fun W m (k : Keep [] w W) => Lib.hid (tasks_any11 v x m W (hI.keep0 k))
  have HIL : Hid ((imgCells v x).length = 4) := show _ = _ from rfl
  have HSL := fun m => Lib.hid (setOf10_lt x m hI.ok)
  generalize imgCells v x = il at *
  obtain ⟨W0, hW0⟩ : ∃ W0, (w.alloc (.cells il.toArray 26)).alloc (.cells #[.int .i64 0, .int .i64 0, .int .i64 0, .int .i64 0, .int .i64 0, .int .i64 0, .int .i64 0, .int .i64 0, .int .i64 0, .int .i64 0, .int .i64 0, .int .i64 0, .int .i64 0, .int .i64 0, .int .i64 0, .int .i64 0, .int .i64 0, .int .i64 0, .int .i64 0, .int .i64 0, .int .i64 0, .int .i64 0, .int .i64 0] 70) = W0 := ⟨_, rfl⟩
  have K0 : Keep [] w W0 := by rw [← hW0]; exact ((Keep.refl _ w).alloc _).alloc _
  have t0 : Blk W0 w.heap.size 26 il.toArray := by rw [← hW0]; exact (Blk.new _ _ _).alloc _
  have s0 : Blk W0 (w.heap.size + 1) 70 #[.int .i64 0, .int .i64 0, .int .i64 0, .int .i64 0, .int .i64 0, .int .i64 0, .int .i64 0, .int .i64 0, .int .i64 0, .int .i64 0, .int .i64 0, .int .i64 0, .int .i64 0, .int .i64 0, .int .i64 0, .int .i64 0, .int .i64 0, .int .i64 0, .int .i64 0, .int .i64 0, .int .i64 0, .int .i64 0, .int .i64 0] := by
    rw [← hW0]
    have := Blk.new (w.alloc (.cells il.toArray 26)) 70 #[.int .i64 0, .int .i64 0, .int .i64 0, .int .i64 0, .int .i64 0, .int .i64 0, .int .i64 0, .int .i64 0, .int .i64 0, .int .i64 0, .int .i64 0, .int .i64 0, .int .i64 0, .int .i64 0, .int .i64 0, .int .i64 0, .int .i64 0, .int .i64 0, .int .i64 0, .int .i64 0, .int .i64 0, .int .i64 0, .int .i64 0]
    rwa [World.size_alloc] at this
  have HW0 := Lib.hid hW0
  obtain ⟨a0, ha0⟩ : ∃ a, atD l i = a := ⟨_, rfl⟩
  obtain ⟨a1, ha1⟩ : ∃ a, atD l (i + 1) = a := ⟨_, rfl⟩
  obtain ⟨a2, ha2⟩ : ∃ a, atD l (i + 2) = a := ⟨_, rfl⟩
  have n0 := HN W0 i (i : Int) rfl K0
  have n1 := HN W0 (i + 1) ((i : Int) + 1) (by omega) K0
  have n2 := HN W0 (i + 2) ((i : Int) + 2) (by omega) K0
  have hzw := s0.lt
  rw [ha0] at n0
  rw [ha1] at n1
  rw [ha2] at n2
  clear hW0
  generalize hll : l.length = ll at *
  go_enter Tryd.func30, Tryd.ntmps30
  go_wp2_with (rw [HW0.out])
  refine n0.out.mono ?_
  rintro e w1 ⟨rfl, rfl⟩
  go_wp2_with fail
  refine n1.out.mono ?_
  rintro e w1 ⟨rfl, rfl⟩
  go_wp2_with fail
  refine n2.out.mono ?_
  rintro e w1 ⟨rfl, rfl⟩
  go_wp2_with (refine stop_store 70 (.tmp 8) (.tmp 22) rfl ?_)
  constructor
  refine wpList_store_all rfl 70 (.tmp 8) (.tmp 22) rfl rfl rfl (vs := [.int .i64 a0, .int .i64 a1, .int .i64 a2, .int .i64 0, .int .i64 0, .int .i64 0, .int .i64 0, .int .i64 0, .int .i64 0, .int .i64 0, .int .i64 0, .int .i64 0, .int .i64 0, .int .i64 0, .int .i64 0, .int .i64 0, .int .i64 0, .int .i64 0, .int .i64 0, .int .i64 0, .int .i64 0, .int .i64 0, .int .i64 0]) agg_edge.2 (Blk.new _ _ _) (by simp [Value.oneCell']) rfl ?_
  intro w4 d4 k4
  obtain ⟨g, hg⟩ : ∃ g, g = W0.heap.size := ⟨_, rfl⟩
  rw [← hg] at d4 ⊢
  have k34 : Keep [] W0 w4 := ((Keep.refl [] W0).alloc (.cells #[.int .i64 0, .int .i64 0, .int .i64 0, .int .i64 0, .int .i64 0, .int .i64 0, .int .i64 0, .int .i64 0, .int .i64 0, .int .i64 0, .int .i64 0, .int .i64 0, .int .i64 0, .int .i64 0, .int .i64 0, .int .i64 0, .int .i64 0, .int .i64 0, .int .i64 0, .int .i64 0, .int .i64 0, .int .i64 0, .int .i64 0] 70)).trans k4 (fun y hy h => by simp at hy; omega)
  have hgz : w.heap.size + 1 < g := by omega
  have s4 := s0.keep0 k34
  have t4 := t0.keep0 k34
  have K4 := K0.then k34
  have hd4 : Hid (Blk w4 g 70 (edgCells ⟨a0, a1, a2, List.replicate 16 0, mpD l i 0⟩).toArray) := d4
  have HS4 := Lib.hid s4
  have HT4 := Lib.hid t4
  have HK4 := Lib.hid K4
  clear hg k34 k4 s0 K0 n0 n1 n2 hzw HW0 d4 s4 t4 K4 t0
  go_wp2
  go_loopw [9] (fun v9 wr => ∃ k : Nat, k ≤ 4 ∧ v9 = .int .i64 (k : Int) ∧ Blk wr g 70 (edgCells ⟨a0, a1, a2, List.replicate 16 0, mpD l i k⟩).toArray ∧ Blk wr (w.heap.size + 1) 70 #[.int .i64 0, .int .i64 0, .int .i64 0, .int .i64 0, .int .i64 0, .int .i64 0, .int .i64 0, .int .i64 0, .int .i64 0, .int .i64 0, .int .i64 0, .int .i64 0, .int .i64 0, .int .i64 0, .int .i64 0, .int .i64 0, .int .i64 0, .int .i64 0, .int .i64 0, .int .i64 0, .int .i64 0, .int .i64 0, .int .i64 0] ∧ Blk wr w.heap.size 26 il.toArray ∧ Keep [] w wr) (fun v9 _ => 4 - (intOf v9).toNat)
  case atStart => exact ⟨0, by omega, rfl, hd4.out, HS4.out, HT4.out, HK4.out⟩
  case round =>
    obtain ⟨k, hk, rfl, hb, hs, ht, hkw⟩ := hrel
    by_cases hlt : k < 4
    · have hsc := mpD_succ l i k
      have hl4 := mpD_len l i k
      generalize mpD l i k = mp at *
      have HSC := Lib.hid hsc
      have HB := Lib.hid hb
      have nn := HN wr (i + 3 + k) ((i : Int) + 3 + (k : Int)) (by omega) hkw
      have gc : wr.cell? ⟨g, 19 + k, none⟩ = some (.int .i64 (mp[k]'(by omega))) := by rw [hb.cell]; exact edg_atm _ _ _ _ mp k rfl (by omega)
      have gf := hb.frozen (19 + k)
      have HS := Lib.hid hs
      have HT := Lib.hid ht
      have HKW := Lib.hid hkw
      have p0 : (0 : Int) ≤ (k : Int) := by omega
      have p1 : (k : Int) < 4 := by omega
      generalize atD l (i + 3 + k) = u at *
      clear hsc hb hs ht hkw
      go_wp2_with fail
      refine nn.out.mono ?_
      rintro e w6 ⟨rfl, rfl⟩
      have ks := keep_set wr g (19 + k) (.int .i64 u)
      have hb5 := HB.out.set_ (19 + k) (.int .i64 u)
      rw [edg_setm _ _ _ _ _ _ _ rfl] at hb5
      have hs5 := HS.out.keep ks (by simp; omega)
      have ht5 := HT.out.keep ks (by simp; omega)
      have hk5 := HKW.out.trans ks (fun y hy hlt => by simp at hy; omega)
      have H5 := Lib.hid (And.intro hb5 (And.intro hs5 (And.intro ht5 hk5)))
      clear ks hb5 hs5 ht5 hk5 nn
      go_wp2
      go_roundw
      case rel => exact ⟨k + 1, by omega, by go_num, by rw [HSC.out]; exact H5.out.1, H5.out.2.1, H5.out.2.2.1, H5.out.2.2.2⟩
      case measure => simp [intOf] <;> omega
    · obtain rfl : k = 4 := by omega
      have HED : Hid (edgeD l x i = if a2 = 3 then (⟨a0, a1, a2, (ofD l x a0 a1 (i + 7) 16).1, mpD l i 4⟩, (ofD l x a0 a1 (i + 7) 16).2) else (⟨a0, a1, a2, List.replicate 16 0, mpD l i 4⟩, i + 7)) := by
        show _ = _
        unfold edgeD
        rw [mpD_4, ha0, ha1, ha2]
        rfl
      have hl4 := mpD_len l i 4
      generalize mpD l i 4 = mp at *
      have HB := Lib.hid hb
      have HS := Lib.hid hs
      have HT := Lib.hid ht
      have HKW := Lib.hid hkw
      clear hb hs ht hkw hlt hk
      rw [show (((4 : Nat)) : Int) = 4 from rfl]
      go_wp2
      generalize wr = wo at *
      go_loopw [2, 10] (fun v2 v10 wr => ∃ k : Nat, k ≤ 16 ∧ (a2 = 3 ∨ k = 0) ∧ v10 = .int .i64 (k : Int) ∧ v2 = .int .i64 ((ofD l x a0 a1 (i + 7) k).2 : Int) ∧ Blk wr g 70 (edgCells ⟨a0, a1, a2, (ofD l x a0 a1 (i + 7) k).1, mp⟩).toArray ∧ Blk wr (w.heap.size + 1) 70 #[.int .i64 0, .int .i64 0, .int .i64 0, .int .i64 0, .int .i64 0, .int .i64 0, .int .i64 0, .int .i64 0, .int .i64 0, .int .i64 0, .int .i64 0, .int .i64 0, .int .i64 0, .int .i64 0, .int .i64 0, .int .i64 0, .int .i64 0, .int .i64 0, .int .i64 0, .int .i64 0, .int .i64 0, .int .i64 0, .int .i64 0] ∧ Blk wr w.heap.size 26 il.toArray ∧ Keep [] w wr) (fun _ v10 _ => 16 - (intOf v10).toNat)
      case atStart => exact ⟨0, by omega, .inr rfl, rfl, (by show Value.int .i64 ((i : Int) + 7) = .int .i64 (((i + 7 : Nat)) : Int); rw [Int.natCast_add]; rfl), HB.out, HS.out, HT.out, HKW.out⟩
      case round =>
        obtain ⟨k, hk, hpk, rfl, rfl, hb, hs, ht, hkw⟩ := hrel
        have c0 : wr.cell? ⟨g, 0, none⟩ = some (.int .i64 a0) := by rw [hb.cell]; rfl
        have c1 : wr.cell? ⟨g, 1, none⟩ = some (.int .i64 a1) := by rw [hb.cell]; rfl
        have c2 : wr.cell? ⟨g, 2, none⟩ = some (.int .i64 a2) := by rw [hb.cell]; rfl
        by_cases hlt : k < 16 ∧ a2 = 3
        · obtain ⟨hlt, rfl⟩ := hlt
          have hsc := ofD_succ l x a0 a1 (i + 7) k
          obtain ⟨hl16, hp⟩ := ofD_len l x a0 a1 (i + 7) k
          generalize ofD l x a0 a1 (i + 7) k = F at *
          obtain ⟨of, p⟩ := F
          dsimp only at hb hl16 hp
          have HSC := Lib.hid hsc
          have HB := Lib.hid hb
          have HS := Lib.hid hs
          have HT := Lib.hid ht
          have HKW := Lib.hid hkw
          have HCI : Hid (CellsAt wr w.heap.size 0 il) := ht.cellsAt
          have hT1 := HTK wr a1 hkw
          have hT2 := fun W (k : Keep [] wr W) => HTK W a0 (hkw.then k)
          have e1 : ∀ s : Nat, has10 s (k : Int) = s.testBit k := fun s => by unfold has10; rw [Int.toNat_natCast]; simp; omega
          have p0 : (0 : Int) ≤ (k : Int) := by omega
          have p1 : (k : Int) < 16 := by omega
          have HNN := fun W (k : Keep [] w W) => HN W p (p : Int) rfl k
          have hof : Hid (ofC x a0 a1 k = ((setOf10 x a1).testBit k && !(setOf10 x a0).testBit k)) := show _ = _ from rfl
          have hs1 := (HSL a1).out
          have hs2 := (HSL a0).out
          generalize setOf10 x a1 = st at *
          generalize setOf10 x a0 = sf at *
          have hA1 := fun W => Lib.hid (has10_any st (k : Int) W hs1)
          have hA2 := fun W => Lib.hid (has10_any sf (k : Int) W hs2)
          rw [e1] at hA1 hA2
          clear hsc hb hs ht hkw e1
          cases hb1 : st.testBit k
          · have HE : Hid (ofD l x a0 a1 (i + 7) (k + 1) = (of, p)) := by show _ = _; rw [HSC.out, hof.out, hb1]; rfl
            rw [hb1] at hA1
            clear hb1 HSC hof hA2
            go_wp2_with (first
              | (refine wpList_load_agg rfl 26 (.tmp 3) rfl rfl (cs := il) (by rw [HIL.out]; exact agg_image) HCI.out ?_)
              | (go_at_call 42; refine hT1.out.mono ?_; clear hT1; rintro e w7 ⟨rfl, k7⟩; have HB7 := Lib.hid (HB.out.keep0 k7); have HS7 := Lib.hid (HS.out.keep0 k7); have HT7 := Lib.hid (HT.out.keep0 k7); have HK7 := Lib.hid (HKW.out.then k7); have HCI7 : Hid (CellsAt w7 w.heap.size 0 il) := HT7.out.cellsAt; have hT3 := hT2 w7 k7; have c07 : w7.cell? ⟨g, 0, none⟩ = some (.int .i64 a0) := (by rw [HB7.out.cell]; rfl); clear k7 hT2)
              | (go_at_call 22; refine (hA1 _).out.mono ?_; clear hA1; rintro e w8 ⟨rfl, rfl⟩))
            go_roundw
            case rel => exact ⟨k + 1, by omega, (by simp), by go_num, by rw [HE.out], by rw [HE.out]; exact HB7.out, HS7.out, HT7.out, HK7.out⟩
            case measure => simp [intOf] <;> omega
          · rw [hb1] at hA1
            cases hb2 : sf.testBit k
            · have HE : Hid (ofD l x a0 a1 (i + 7) (k + 1) = (of.set k (atD l p), p + 1)) := by show _ = _; rw [HSC.out, hof.out, hb1, hb2]; rfl
              rw [hb2] at hA2
              generalize atD l p = u at *
              clear hb1 hb2 HSC hof
              go_wp2_with (first
                | (refine wpList_agg_gd rfl 26 (.tmp 3) rfl rfl (cs := il) (by rw [HIL.out]; exact agg_image) HCI7.out ?_)
                | (refine wpList_load_agg rfl 26 (.tmp 3) rfl rfl (cs := il) (by rw [HIL.out]; exact agg_image) HCI.out ?_)
                | (go_at_call 42; refine hT1.out.mono ?_; clear hT1; rintro e w7 ⟨rfl, k7⟩; have HB7 := Lib.hid (HB.out.keep0 k7); have HS7 := Lib.hid (HS.out.keep0 k7); have HT7 := Lib.hid (HT.out.keep0 k7); have HK7 := Lib.hid (HKW.out.then k7); have HCI7 : Hid (CellsAt w7 w.heap.size 0 il) := HT7.out.cellsAt; have hT3 := hT2 w7 k7; have c07 : w7.cell? ⟨g, 0, none⟩ = some (.int .i64 a0) := (by rw [HB7.out.cell]; rfl); clear k7 hT2)
                | (go_at_call 22; refine (hA1 _).out.mono ?_; clear hA1; rintro e w8 ⟨rfl, rfl⟩)
                | (go_at_call 42; refine hT3.out.mono ?_; clear hT3; rintro e w9 ⟨rfl, k9⟩; have HB9 := Lib.hid (HB7.out.keep0 k9); have HS9 := Lib.hid (HS7.out.keep0 k9); have HT9 := Lib.hid (HT7.out.keep0 k9); have HK9 := Lib.hid (HK7.out.then k9); have nn := HNN w9 HK9.out; have gc := (show w9.cell? ⟨g, 3 + k, none⟩ = some (.int .i64 (of[k]'(by omega))) from (by rw [HB9.out.cell]; exact edg_ato _ _ _ _ _ k (by omega))); have gf := HB9.out.frozen (3 + k); clear k9 HNN)
                | (go_at_call 22; refine (hA2 _).out.mono ?_; clear hA2; rintro e w8 ⟨rfl, rfl⟩)
                | (go_at_call 27; refine nn.out.mono ?_; clear nn; rintro e w10 ⟨rfl, rfl⟩))
              have ks := keep_set w9 g (3 + k) (.int .i64 u)
              have hb5 := HB9.out.set_ (3 + k) (.int .i64 u)
              rw [edg_seto _ _ _ _ _ _ _ (by omega)] at hb5
              have hs5 := HS9.out.keep ks (by simp; omega)
              have ht5 := HT9.out.keep ks (by simp; omega)
              have hk5 := HK9.out.trans ks (fun y hy hlt => by simp at hy; omega)
              have H5 := Lib.hid (And.intro hb5 (And.intro hs5 (And.intro ht5 hk5)))
              clear ks hb5 hs5 ht5 hk5
              go_roundw
              case rel => exact ⟨k + 1, by omega, (by simp), by go_num, by rw [HE.out]; go_num, by rw [HE.out]; exact H5.out.1, H5.out.2.1, H5.out.2.2.1, H5.out.2.2.2⟩
              case measure => simp [intOf] <;> omega
            · have HE : Hid (ofD l x a0 a1 (i + 7) (k + 1) = (of, p)) := by show _ = _; rw [HSC.out, hof.out, hb1, hb2]; rfl
              rw [hb2] at hA2
              clear hb1 hb2 HSC hof
              go_wp2_with (first
                | (refine wpList_agg_gd rfl 26 (.tmp 3) rfl rfl (cs := il) (by rw [HIL.out]; exact agg_image) HCI7.out ?_)
                | (refine wpList_load_agg rfl 26 (.tmp 3) rfl rfl (cs := il) (by rw [HIL.out]; exact agg_image) HCI.out ?_)
                | (go_at_call 42; refine hT1.out.mono ?_; clear hT1; rintro e w7 ⟨rfl, k7⟩; have HB7 := Lib.hid (HB.out.keep0 k7); have HS7 := Lib.hid (HS.out.keep0 k7); have HT7 := Lib.hid (HT.out.keep0 k7); have HK7 := Lib.hid (HKW.out.then k7); have HCI7 : Hid (CellsAt w7 w.heap.size 0 il) := HT7.out.cellsAt; have hT3 := hT2 w7 k7; have c07 : w7.cell? ⟨g, 0, none⟩ = some (.int .i64 a0) := (by rw [HB7.out.cell]; rfl); clear k7 hT2)
                | (go_at_call 22; refine (hA1 _).out.mono ?_; clear hA1; rintro e w8 ⟨rfl, rfl⟩)
                | (go_at_call 42; refine hT3.out.mono ?_; clear hT3; rintro e w9 ⟨rfl, k9⟩; have HB9 := Lib.hid (HB7.out.keep0 k9); have HS9 := Lib.hid (HS7.out.keep0 k9); have HT9 := Lib.hid (HT7.out.keep0 k9); have HK9 := Lib.hid (HK7.out.then k9); clear k9)
                | (go_at_call 22; refine (hA2 _).out.mono ?_; clear hA2; rintro e w8 ⟨rfl, rfl⟩))
              go_roundw
              case rel => exact ⟨k + 1, by omega, (by simp), by go_num, by rw [HE.out], by rw [HE.out]; exact HB9.out, HS9.out, HT9.out, HK9.out⟩
              case measure => simp [intOf] <;> omega
        · have hcase : (a2 = 3 ∧ k = 16) ∨ ((a2 == 3) = false ∧ ¬ a2 = 3 ∧ k = 0) := by
            by_cases h3 : a2 = 3
            · exact .inl ⟨h3, by omega⟩
            · exact .inr ⟨by simpa using h3, h3, by omega⟩
          have hE2 : ∃ F : List Int × Nat, edgeD l x i = (⟨a0, a1, a2, F.1, mp⟩, F.2) ∧ ofD l x a0 a1 (i + 7) k = F ∧ F.1.length = 16 := by
            rcases hcase with ⟨h3, rfl⟩ | ⟨_, h3, rfl⟩
            · exact ⟨_, by rw [HED.out, if_pos h3], rfl, (ofD_len _ _ _ _ _ _).1⟩
            · exact ⟨(List.replicate 16 0, i + 7), by rw [HED.out, if_neg h3], rfl, rfl⟩
          obtain ⟨F, hF1, hF2, hF3⟩ := hE2
          rw [hF2] at hb ⊢
          obtain ⟨of, p⟩ := F
          dsimp only at hb hF1 hF3
          have hcs := hb.cellsAt
          have HB := Lib.hid hb
          have HF1 := Lib.hid hF1
          have HSS := Lib.hid hs
          have HKW := Lib.hid hkw
          have HEC : Hid ((edgCells ⟨a0, a1, a2, of, mp⟩).length = 23) := by show _ = _; simp [edgCells, edgInts, hF3, hl4]
          have HON : Hid (∀ v, v ∈ edgCells ⟨a0, a1, a2, of, mp⟩ → v.oneCell' = true) := by
            intro u hu
            simp only [edgCells, iv, List.mem_map] at hu
            obtain ⟨z, _, rfl⟩ := hu
            rfl
          clear hF2 hF1 hb hs hkw hpk hlt HED hF3 hl4
          generalize hec : edgCells ⟨a0, a1, a2, of, mp⟩ = ec at *
          have HQ := Lib.hid hec
          clear hec
          rcases hcase with ⟨rfl, rfl⟩ | ⟨h3, _, rfl⟩
          all_goals
            go_wp2_with (refine stop_load 70 (.tmp 8) rfl ?_)
            constructor
            refine wpList_load_agg rfl 70 (.tmp 8) rfl rfl (cs := ec) (by rw [HEC.out]; exact agg_edge) hcs ?_
            go_wp2_with (refine stop_store 70 (.tmp 6) (.tmp 70) rfl ?_)
            constructor
            refine wpList_store_all rfl 70 (.tmp 6) (.tmp 70) rfl rfl rfl (vs := ec) (by rw [HEC.out]; exact agg_edge.2) HSS.out HON.out (by rw [HEC.out]; rfl) ?_
            intro w5 d5 k5
            have hk5 := HKW.out.trans k5 (fun y hy hlt => by simp at hy; omega)
            clear hcs
            go_wp2
            refine bodyPost_ret (results_blk_tmpR rfl _ rfl rfl d5 (by rw [HEC.out]; exact agg_edge)) rfl ?_
            rw [HF1.out]
            dsimp only
            rw [HQ.out]
            exact ⟨rfl, hk5⟩
end Go.Proofs.YtfgjcjpemlgnmaaDoor
