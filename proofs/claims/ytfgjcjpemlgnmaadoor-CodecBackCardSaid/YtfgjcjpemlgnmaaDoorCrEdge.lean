/- codec's reader: an edge; walked. Condition: the table of math/bits lies where the program's text lays it; the image's sets are of sixteen bits. -/
import Derived.Test.YtfgjcjpemlgnmaaDoorCrMode
import Derived.Test.YtfgjcjpemlgnmaaDoorCwFresh
namespace Go.Proofs.YtfgjcjpemlgnmaaDoor
open Go.RowKit
attribute [local go_sem] Oper.semAt_some

theorem iv_setR (l : List Int) (i : Nat) (n : Int) : (iv l).toArray.setIfInBounds i (.int .i64 n) = (iv (l.set i n)).toArray := by simp [List.map_set]
theorem edg_setm (a b c : Int) (o l : List Int) (j : Nat) (n : Int) (h : o.length = 16) : (edgCells ⟨a, b, c, o, l⟩).toArray.setIfInBounds (19 + j) (.int .i64 n) = (edgCells ⟨a, b, c, o, l.set j n⟩).toArray := by
  unfold edgCells
  rw [iv_setR]
  unfold edgInts
  have e : (o ++ l).set (16 + j) n = o ++ l.set j n := by rw [List.set_append_right _ _ (by omega), h]; simp
  dsimp only
  rw [← e, show 19 + j = 16 + j + 3 by omega]
  rfl
theorem edg_seto (a b c : Int) (o l : List Int) (j : Nat) (n : Int) (h : j < o.length) : (edgCells ⟨a, b, c, o, l⟩).toArray.setIfInBounds (3 + j) (.int .i64 n) = (edgCells ⟨a, b, c, o.set j n, l⟩).toArray := by
  unfold edgCells
  rw [iv_setR]
  unfold edgInts
  have e : (o ++ l).set j n = o.set j n ++ l := by rw [List.set_append_left _ _ h]
  dsimp only
  rw [← e, show 3 + j = j + 3 by omega]
  rfl
theorem edg_atm (a b c : Int) (o l : List Int) (j : Nat) (h : o.length = 16) (hj : j < l.length) : (edgCells ⟨a, b, c, o, l⟩).toArray[19 + j]? = some (.int .i64 l[j]) := by
  have h1 : o.length ≤ j + 16 := by omega
  have h2 : j + 16 - o.length = j := by omega
  simp [edgCells, edgInts, Nat.add_comm 19 j]
  rw [List.getElem?_append_right (by simpa using h1)]
  simp [h2, hj]
theorem edg_ato (a b c : Int) (o l : List Int) (j : Nat) (hj : j < o.length) : (edgCells ⟨a, b, c, o, l⟩).toArray[3 + j]? = some (.int .i64 o[j]) := by
  simp [edgCells, edgInts, Nat.add_comm 3 j, List.getElem?_append, hj]
theorem mapM4_len (l : List Int) (st : Nat × Bool) : ∀ n, (mapM4 l st n).1.length = 4
  | 0 => rfl
  | n + 1 => by
    have e : (mapM4 l st (n + 1)).1 = (mapM4 l st n).1.set n (nextM l (mapM4 l st n).2 4).1 := rfl
    rw [e, List.length_set, mapM4_len l st n]
theorem offM_snoc (l : List Int) (ks : List Nat) (k : Nat) (lon : List Int) (st : Nat × Bool) : offM l (ks ++ [k]) lon st = offStep l (offM l ks lon st) k := by
  unfold offM
  rw [List.foldl_append]
  rfl
theorem offM_len (l : List Int) : ∀ (ks : List Nat) (lon : List Int) (st : Nat × Bool), (offM l ks lon st).1.length = lon.length
  | [], _, _ => rfl
  | k :: ks, lon, st => by
    have e : offM l (k :: ks) lon st = offM l ks (offStep l (lon, st) k).1 (offStep l (lon, st) k).2 := rfl
    rw [e, offM_len l ks]
    exact List.length_set
theorem setOf10_16 (x : Img) (m : Int) (h : ∀ m ∈ x.modes, m.set < 65536) : setOf10 x m < 65536 := by
  unfold setOf10
  split
  · rw [List.getD_eq_getElem?_getD, List.getElem?_eq_getElem (by omega)]
    exact h _ (List.getElem_mem _)
  · omega
theorem fresh_16 (x : Img) (e : Edg) (h : ∀ m ∈ x.modes, m.set < 65536) : freshN x e < 65536 := Nat.lt_of_le_of_lt Nat.and_le_left (setOf10_16 x _ h)

set_option maxRecDepth 100000 in
set_option maxHeartbeats 4000000 in
theorem redge_read (R : Nat) (A : Option Addr) (c : Nat) (l : List Int) (st : Nat × Bool) (v : ImgV) (x : Img) (w : World) (hb : RdrAt w R A c l st) (hW : Reads w 1 A l.length (uw l)) (hA : 0 < l.length → ∃ b o, A = some ⟨b, o, none⟩ ∧ b ≠ R) (hlt : ∀ n ∈ l, 0 ≤ n ∧ n < 4294967296) (hlen : l.length ≤ 100000) (hp : st.1 ≤ l.length) (hT : Tab w) (hR : 0 < R)
    (hI : ∀ w', Keep [R] w w' → ImgAt w' v x) (hset : ∀ m ∈ x.modes, m.set < 65536) :
    Calls Tryd.prog 26 #[.pointer (some ⟨R, 0, none⟩), .agg (imgCells v x).toArray] w fun e w' =>
      e = .returned (.agg (edgCells (edgeM l x st).1).toArray) ∧ RdrAt w' R A c l (edgeM l x st).2 ∧ Keep [R] w w' := by
  have hIL : (imgCells v x).length = 4 := rfl
  have hone : ∀ u ∈ imgCells v x, u.oneCell' = true := by intro u hu; simp [imgCells] at hu; rcases hu with rfl | rfl | rfl | rfl <;> rfl
  have HFe := fun W ed (k : Keep [R] w W) (ho : ed.offs.length = 16) (hm : ed.mp.length = 4) => Lib.hid (fresh_any v x ed W (hI W k) ho hm)
  generalize hil : imgCells v x = il at *
  clear hil hone
  have HIL := Lib.hid hIL
  rw [← callsIn_wide (n := 9)]
  refine callsIn_of_wp_marks Tryd.func26 rfl trivial ?_ rfl
  simp only [Tryd.ntmps26, List.size_toArray, List.length_cons, List.length_nil, Nat.reduceAdd, Nat.reduceSub, Array.replicate_succ, Array.replicate_zero, List.push_toArray, List.append_toArray, List.nil_append, List.cons_append]
  gi_wp2
  have hRw : R < w.heap.size := hb.lt
  obtain ⟨W0, hW0⟩ : ∃ W0, ((w.alloc (.cells #[.pointer (some ⟨R, 0, none⟩)] 72)).alloc (.cells il.toArray 26)).alloc (.cells #[.int .i64 0, .int .i64 0, .int .i64 0, .int .i64 0, .int .i64 0, .int .i64 0, .int .i64 0, .int .i64 0, .int .i64 0, .int .i64 0, .int .i64 0, .int .i64 0, .int .i64 0, .int .i64 0, .int .i64 0, .int .i64 0, .int .i64 0, .int .i64 0, .int .i64 0, .int .i64 0, .int .i64 0, .int .i64 0, .int .i64 0] 70) = W0 := ⟨_, rfl⟩
  have K0 : Keep [] w W0 := by rw [← hW0]; exact (((Keep.refl _ w).alloc _).alloc _).alloc _
  have hz0 : W0.heap.size = w.heap.size + 3 := by rw [← hW0]; simp
  have bres : Blk W0 (w.heap.size + 2) 70 #[.int .i64 0, .int .i64 0, .int .i64 0, .int .i64 0, .int .i64 0, .int .i64 0, .int .i64 0, .int .i64 0, .int .i64 0, .int .i64 0, .int .i64 0, .int .i64 0, .int .i64 0, .int .i64 0, .int .i64 0, .int .i64 0, .int .i64 0, .int .i64 0, .int .i64 0, .int .i64 0, .int .i64 0, .int .i64 0, .int .i64 0] := by
    rw [← hW0]
    have := Blk.new ((w.alloc (.cells #[.pointer (some ⟨R, 0, none⟩)] 72)).alloc (.cells il.toArray 26)) 70 #[.int .i64 0, .int .i64 0, .int .i64 0, .int .i64 0, .int .i64 0, .int .i64 0, .int .i64 0, .int .i64 0, .int .i64 0, .int .i64 0, .int .i64 0, .int .i64 0, .int .i64 0, .int .i64 0, .int .i64 0, .int .i64 0, .int .i64 0, .int .i64 0, .int .i64 0, .int .i64 0, .int .i64 0, .int .i64 0, .int .i64 0]
    rwa [World.size_alloc, World.size_alloc] at this
  have bimg : Blk W0 (w.heap.size + 1) 26 il.toArray := by
    rw [← hW0]
    have := Blk.new (w.alloc (.cells #[.pointer (some ⟨R, 0, none⟩)] 72)) 26 il.toArray
    rw [World.size_alloc] at this
    exact this.alloc _
  have hf : RdrF (w.heap.size + 3) R w.heap.size A l (fun W => Blk W (w.heap.size + 2) 70 #[.int .i64 0, .int .i64 0, .int .i64 0, .int .i64 0, .int .i64 0, .int .i64 0, .int .i64 0, .int .i64 0, .int .i64 0, .int .i64 0, .int .i64 0, .int .i64 0, .int .i64 0, .int .i64 0, .int .i64 0, .int .i64 0, .int .i64 0, .int .i64 0, .int .i64 0, .int .i64 0, .int .i64 0, .int .i64 0, .int .i64 0] ∧ Blk W (w.heap.size + 1) 26 il.toArray ∧ Tab W ∧ Keep [R] w W) := by
    refine ⟨by omega, ⟨by omega, by omega⟩, fun h0 => ?_, hlt, hlen, fun W W' F h k hF => ⟨h.1.keep k (fun hm => by rcases hF _ hm with h1 | h1 <;> omega), h.2.1.keep k (fun hm => by rcases hF _ hm with h1 | h1 <;> omega), h.2.2.1.keep k (fun hm => by rcases hF _ hm with h1 | h1 <;> omega), h.2.2.2.trans k (fun y hy hlt => by rcases hF y hy with h1 | h1 <;> simp <;> omega)⟩⟩
    obtain ⟨b, o, e, hbw, _⟩ := hW.addr h0
    obtain ⟨b', o', e', hne⟩ := hA h0
    rw [e] at e'
    cases e'
    exact ⟨b, o, e, by omega, hne⟩
  have I00 : RdrI (w.heap.size + 3) R w.heap.size A c l (fun W => Blk W (w.heap.size + 2) 70 #[.int .i64 0, .int .i64 0, .int .i64 0, .int .i64 0, .int .i64 0, .int .i64 0, .int .i64 0, .int .i64 0, .int .i64 0, .int .i64 0, .int .i64 0, .int .i64 0, .int .i64 0, .int .i64 0, .int .i64 0, .int .i64 0, .int .i64 0, .int .i64 0, .int .i64 0, .int .i64 0, .int .i64 0, .int .i64 0, .int .i64 0] ∧ Blk W (w.heap.size + 1) 26 il.toArray ∧ Tab W ∧ Keep [R] w W) st W0 :=
    ⟨by rw [← hW0]; exact ((Blk.new _ _ _).alloc _).alloc _, hb.keep K0 (by simp), hW.keep0 K0, hp, ⟨bres, bimg, hT.keep0 K0, K0.mono (by simp)⟩, by omega⟩
  have HW0 := Lib.hid hW0
  have HK0 := Lib.hid K0
  simp only [hW0]
  obtain ⟨r1, h1⟩ : ∃ r, nextM l st 8 = r := ⟨_, rfl⟩
  obtain ⟨r2, h2⟩ : ∃ r, nextM l r1.2 8 = r := ⟨_, rfl⟩
  obtain ⟨r3, h3⟩ : ∃ r, nextM l r2.2 3 = r := ⟨_, rfl⟩
  have HTM : Hid (edgeM l x st = if r3.1 = 3 then (⟨r1.1, r2.1, r3.1, (offM l (bitsL (freshN x ⟨r1.1, r2.1, r3.1, List.replicate 16 0, (mapM4 l r3.2 4).1⟩)) (List.replicate 16 0) (mapM4 l r3.2 4).2).1, (mapM4 l r3.2 4).1⟩, (offM l (bitsL (freshN x ⟨r1.1, r2.1, r3.1, List.replicate 16 0, (mapM4 l r3.2 4).1⟩)) (List.replicate 16 0) (mapM4 l r3.2 4).2).2)
      else (⟨r1.1, r2.1, r3.1, List.replicate 16 0, (mapM4 l r3.2 4).1⟩, (mapM4 l r3.2 4).2)) := by show _ = _; unfold edgeM; simp only [h1, h2, h3]
  have hXX : ∀ W, (fun W => Blk W (w.heap.size + 2) 70 #[.int .i64 0, .int .i64 0, .int .i64 0, .int .i64 0, .int .i64 0, .int .i64 0, .int .i64 0, .int .i64 0, .int .i64 0, .int .i64 0, .int .i64 0, .int .i64 0, .int .i64 0, .int .i64 0, .int .i64 0, .int .i64 0, .int .i64 0, .int .i64 0, .int .i64 0, .int .i64 0, .int .i64 0, .int .i64 0, .int .i64 0] ∧ Blk W (w.heap.size + 1) 26 il.toArray ∧ Tab W ∧ Keep [R] w W) W → Blk W (w.heap.size + 2) 70 #[.int .i64 0, .int .i64 0, .int .i64 0, .int .i64 0, .int .i64 0, .int .i64 0, .int .i64 0, .int .i64 0, .int .i64 0, .int .i64 0, .int .i64 0, .int .i64 0, .int .i64 0, .int .i64 0, .int .i64 0, .int .i64 0, .int .i64 0, .int .i64 0, .int .i64 0, .int .i64 0, .int .i64 0, .int .i64 0, .int .i64 0] ∧ Blk W (w.heap.size + 1) 26 il.toArray ∧ Tab W ∧ Keep [R] w W := fun W h => h
  generalize (fun W => Blk W (w.heap.size + 2) 70 #[.int .i64 0, .int .i64 0, .int .i64 0, .int .i64 0, .int .i64 0, .int .i64 0, .int .i64 0, .int .i64 0, .int .i64 0, .int .i64 0, .int .i64 0, .int .i64 0, .int .i64 0, .int .i64 0, .int .i64 0, .int .i64 0, .int .i64 0, .int .i64 0, .int .i64 0, .int .i64 0, .int .i64 0, .int .i64 0, .int .i64 0] ∧ Blk W (w.heap.size + 1) 26 il.toArray ∧ Tab W ∧ Keep [R] w W) = X at *
  have HX := Lib.hid hXX
  clear hXX
  have N1 := fun W (hI : RdrI (w.heap.size + 3) R w.heap.size A c l X st W) => Lib.hid (hI.next hf 8)
  have N2 := fun W (hI : RdrI (w.heap.size + 3) R w.heap.size A c l X r1.2 W) => Lib.hid (hI.next hf 8)
  have N3 := fun W (hI : RdrI (w.heap.size + 3) R w.heap.size A c l X r2.2 W) => Lib.hid (hI.next hf 3)
  rw [h1] at N1
  rw [h2] at N2
  rw [h3] at N3
  clear h1 h2 h3 hb hW hp hT hW0 K0 bres bimg hA hI
  refine region_post (fun a' w' => ∃ g, a' = { tmps := #[.pointer (some ⟨R, 0, none⟩), .agg il.toArray, .pointer (some ⟨w.heap.size, 0, none⟩), .pointer (some ⟨w.heap.size + 1, 0, none⟩), .pointer (some ⟨w.heap.size + 2, 0, none⟩), .pointer (some ⟨g, 0, none⟩), undef, undef, .pointer (some ⟨R, 0, none⟩), .int .i64 r1.1, .pointer (some ⟨R, 0, none⟩), .int .i64 r2.1, .pointer (some ⟨R, 0, none⟩), .int .i64 r3.1, .agg [.int .i64 r1.1, .int .i64 r2.1, .int .i64 r3.1, .int .i64 0, .int .i64 0, .int .i64 0, .int .i64 0, .int .i64 0, .int .i64 0, .int .i64 0, .int .i64 0, .int .i64 0, .int .i64 0, .int .i64 0, .int .i64 0, .int .i64 0, .int .i64 0, .int .i64 0, .int .i64 0, .int .i64 0, .int .i64 0, .int .i64 0, .int .i64 0].toArray, undef, undef, undef, undef, undef, undef, undef, undef, undef, undef, undef, undef, undef, undef, undef, undef, undef, undef, undef, undef, undef, undef, undef, undef], defers := [] } ∧ w.heap.size + 3 ≤ g ∧ Blk w' g 70 [.int .i64 r1.1, .int .i64 r2.1, .int .i64 r3.1, .int .i64 0, .int .i64 0, .int .i64 0, .int .i64 0, .int .i64 0, .int .i64 0, .int .i64 0, .int .i64 0, .int .i64 0, .int .i64 0, .int .i64 0, .int .i64 0, .int .i64 0, .int .i64 0, .int .i64 0, .int .i64 0, .int .i64 0, .int .i64 0, .int .i64 0, .int .i64 0].toArray ∧ RdrI (w.heap.size + 3) R w.heap.size A c l X r3.2 w') (fun Q' hQ' => ?tree) ?cont
  case tree =>
    have I0 := I00.keepF (F := []) hf (Keep.refl _ W0).drew (fun y hy => by cases hy)
    refine ai_start (fun w' => Blk w' w.heap.size 72 #[.pointer (some ⟨R, 0, none⟩)]) rfl rfl I0.box (fun hND hS hPan => ?_)
    have hSF : ∀ w', Blk w' w.heap.size 72 #[.pointer (some ⟨R, 0, none⟩)] → w'.cell? ⟨w.heap.size, 0, none⟩ = some (.pointer (some ⟨R, 0, none⟩)) ∧ True := fun w' h => ⟨by rw [h.cell]; rfl, trivial⟩
    generalize W0.drew = V0 at *
    (refine ai_val (v := ?_) 0 rfl open_wide hND (by kernel_rfl) (by kernel_rfl) (by kernel_rfl) (by rfl) hPan ?_ hS ?_; rotate_left; (intro w' hSw; obtain ⟨f0, _f⟩ := hSF w' hSw; go_simp; try with_reducible rfl); simp only [Act.put, List.setIfInBounds_toArray, List.set_cons_zero, List.set_cons_succ])
    (refine ai_val (v := ?_) 2 rfl open_wide hND (by kernel_rfl) (by kernel_rfl) (by kernel_rfl) (by rfl) hPan ?_ hS ?_; rotate_left; (intro w' hSw; obtain ⟨f0, _f⟩ := hSF w' hSw; go_simp; try with_reducible rfl); simp only [Act.put, List.setIfInBounds_toArray, List.set_cons_zero, List.set_cons_succ])
    (refine ai_val (v := ?_) 4 rfl open_wide hND (by kernel_rfl) (by kernel_rfl) (by kernel_rfl) (by rfl) hPan ?_ hS ?_; rotate_left; (intro w' hSw; obtain ⟨f0, _f⟩ := hSF w' hSw; go_simp; try with_reducible rfl); simp only [Act.put, List.setIfInBounds_toArray, List.set_cons_zero, List.set_cons_succ])
    refine ai_two 1 7 (by kernel_rfl) ?_ ?_
    · skip
      refine oi_call (f := 23) 1 rfl open_wide hND (by rfl) rfl (by simp only [List.map_toArray, List.map_cons, List.map_nil]; rfl) Tryd.func23 (by kernel_rfl) (by kernel_rfl) (N1 _ I0).out ?_
      rintro e V1 ⟨rfl, I1, kk⟩
      refine ⟨_, rfl, I1.box, ?_⟩
      clear kk
      (simp only [Act.put, List.setIfInBounds_toArray, List.set_cons_zero, List.set_cons_succ])
      refine ai_two 3 7 (by kernel_rfl) ?_ ?_
      · skip
        refine oi_call (f := 23) 3 rfl open_wide hND (by rfl) rfl (by simp only [List.map_toArray, List.map_cons, List.map_nil]; rfl) Tryd.func23 (by kernel_rfl) (by kernel_rfl) (N2 _ I1).out ?_
        rintro e V2 ⟨rfl, I2, kk⟩
        refine ⟨_, rfl, I2.box, ?_⟩
        clear kk
        (simp only [Act.put, List.setIfInBounds_toArray, List.set_cons_zero, List.set_cons_succ])
        refine ai_two 5 7 (by kernel_rfl) ?_ ?_
        · skip
          refine oi_call (f := 23) 5 rfl open_wide hND (by rfl) rfl (by simp only [List.map_toArray, List.map_cons, List.map_nil]; rfl) Tryd.func23 (by kernel_rfl) (by kernel_rfl) (N3 _ I2).out ?_
          rintro e V3 ⟨rfl, I3, kk⟩
          refine ⟨_, rfl, I3.box, ?_⟩
          clear kk
          (simp only [Act.put, List.setIfInBounds_toArray, List.set_cons_zero, List.set_cons_succ])
          have hS := I3.box
          (refine ai_val (v := ?_) 6 rfl open_wide hND (by kernel_rfl) (by kernel_rfl) (by kernel_rfl) (by rfl) hPan ?_ hS ?_; rotate_left; (intro w' hSw; go_simp; try with_reducible rfl); simp only [Act.put, List.setIfInBounds_toArray, List.set_cons_zero, List.set_cons_succ])
          refine ai_one 7 (by kernel_rfl) ?_
          refine oi_run (v := .pointer (some ⟨World.heap V3 |>.size, 0, none⟩)) (w' := World.alloc V3 (.cells #[.int .i64 0, .int .i64 0, .int .i64 0, .int .i64 0, .int .i64 0, .int .i64 0, .int .i64 0, .int .i64 0, .int .i64 0, .int .i64 0, .int .i64 0, .int .i64 0, .int .i64 0, .int .i64 0, .int .i64 0, .int .i64 0, .int .i64 0, .int .i64 0, .int .i64 0, .int .i64 0, .int .i64 0, .int .i64 0, .int .i64 0] 70)) 7 rfl open_wide hND (by rfl) (by go_simp) ?_
          have I4 := I3.keepF (F := []) hf ((Keep.refl [] V3).alloc (.cells #[.int .i64 0, .int .i64 0, .int .i64 0, .int .i64 0, .int .i64 0, .int .i64 0, .int .i64 0, .int .i64 0, .int .i64 0, .int .i64 0, .int .i64 0, .int .i64 0, .int .i64 0, .int .i64 0, .int .i64 0, .int .i64 0, .int .i64 0, .int .i64 0, .int .i64 0, .int .i64 0, .int .i64 0, .int .i64 0, .int .i64 0] 70)) (fun y hy => by cases hy)
          have ga4 := Blk.new V3 70 #[.int .i64 0, .int .i64 0, .int .i64 0, .int .i64 0, .int .i64 0, .int .i64 0, .int .i64 0, .int .i64 0, .int .i64 0, .int .i64 0, .int .i64 0, .int .i64 0, .int .i64 0, .int .i64 0, .int .i64 0, .int .i64 0, .int .i64 0, .int .i64 0, .int .i64 0, .int .i64 0, .int .i64 0, .int .i64 0, .int .i64 0]
          have gs := I3.siz
          refine ⟨I4.box, ?_⟩
          generalize World.alloc V3 (.cells #[.int .i64 0, .int .i64 0, .int .i64 0, .int .i64 0, .int .i64 0, .int .i64 0, .int .i64 0, .int .i64 0, .int .i64 0, .int .i64 0, .int .i64 0, .int .i64 0, .int .i64 0, .int .i64 0, .int .i64 0, .int .i64 0, .int .i64 0, .int .i64 0, .int .i64 0, .int .i64 0, .int .i64 0, .int .i64 0, .int .i64 0] 70) = V4 at *
          generalize (World.heap V3).size = gq at *
          (simp only [Act.put, List.setIfInBounds_toArray, List.set_cons_zero, List.set_cons_succ])
          refine ai_one 8 (by kernel_rfl) ?_
          refine oi_store_all (t := 70) (cs := #[.int .i64 0, .int .i64 0, .int .i64 0, .int .i64 0, .int .i64 0, .int .i64 0, .int .i64 0, .int .i64 0, .int .i64 0, .int .i64 0, .int .i64 0, .int .i64 0, .int .i64 0, .int .i64 0, .int .i64 0, .int .i64 0, .int .i64 0, .int .i64 0, .int .i64 0, .int .i64 0, .int .i64 0, .int .i64 0, .int .i64 0]) (vs := [.int .i64 r1.1, .int .i64 r2.1, .int .i64 r3.1, .int .i64 0, .int .i64 0, .int .i64 0, .int .i64 0, .int .i64 0, .int .i64 0, .int .i64 0, .int .i64 0, .int .i64 0, .int .i64 0, .int .i64 0, .int .i64 0, .int .i64 0, .int .i64 0, .int .i64 0, .int .i64 0, .int .i64 0, .int .i64 0, .int .i64 0, .int .i64 0]) 8 rfl open_wide hND (by rfl) rfl rfl rfl agg_edge.2 ga4 (by simp [Value.oneCell']) rfl ?_
          intro V5 d9 k9
          have I5 := I4.keepF hf k9 (fun y hy => by simp only [List.mem_cons, List.not_mem_nil, or_false] at hy; omega)
          refine ⟨I5.box, ?_⟩
          (simp only [Act.put])
          exact ai_end (by kernel_rfl) (hQ' _ _ ⟨gq, rfl, gs, d9, I5⟩) _
        · skip
          refine oi_run (v := .pointer (some ⟨World.heap V2 |>.size, 0, none⟩)) (w' := World.alloc V2 (.cells #[.int .i64 0, .int .i64 0, .int .i64 0, .int .i64 0, .int .i64 0, .int .i64 0, .int .i64 0, .int .i64 0, .int .i64 0, .int .i64 0, .int .i64 0, .int .i64 0, .int .i64 0, .int .i64 0, .int .i64 0, .int .i64 0, .int .i64 0, .int .i64 0, .int .i64 0, .int .i64 0, .int .i64 0, .int .i64 0, .int .i64 0] 70)) 7 rfl open_wide hND (by rfl) (by go_simp) ?_
          have I6 := I2.keepF (F := []) hf ((Keep.refl [] V2).alloc (.cells #[.int .i64 0, .int .i64 0, .int .i64 0, .int .i64 0, .int .i64 0, .int .i64 0, .int .i64 0, .int .i64 0, .int .i64 0, .int .i64 0, .int .i64 0, .int .i64 0, .int .i64 0, .int .i64 0, .int .i64 0, .int .i64 0, .int .i64 0, .int .i64 0, .int .i64 0, .int .i64 0, .int .i64 0, .int .i64 0, .int .i64 0] 70)) (fun y hy => by cases hy)
          have ga6 := Blk.new V2 70 #[.int .i64 0, .int .i64 0, .int .i64 0, .int .i64 0, .int .i64 0, .int .i64 0, .int .i64 0, .int .i64 0, .int .i64 0, .int .i64 0, .int .i64 0, .int .i64 0, .int .i64 0, .int .i64 0, .int .i64 0, .int .i64 0, .int .i64 0, .int .i64 0, .int .i64 0, .int .i64 0, .int .i64 0, .int .i64 0, .int .i64 0]
          have gs := I2.siz
          refine ⟨I6.box, ?_⟩
          generalize World.alloc V2 (.cells #[.int .i64 0, .int .i64 0, .int .i64 0, .int .i64 0, .int .i64 0, .int .i64 0, .int .i64 0, .int .i64 0, .int .i64 0, .int .i64 0, .int .i64 0, .int .i64 0, .int .i64 0, .int .i64 0, .int .i64 0, .int .i64 0, .int .i64 0, .int .i64 0, .int .i64 0, .int .i64 0, .int .i64 0, .int .i64 0, .int .i64 0] 70) = V6 at *
          generalize (World.heap V2).size = gq at *
          (simp only [Act.put, List.setIfInBounds_toArray, List.set_cons_zero, List.set_cons_succ])
          refine ai_one 5 (by kernel_rfl) ?_
          refine oi_call (f := 23) 5 rfl open_wide hND (by rfl) rfl (by simp only [List.map_toArray, List.map_cons, List.map_nil]; rfl) Tryd.func23 (by kernel_rfl) (by kernel_rfl) (N3 _ I6).out ?_
          rintro e V7 ⟨rfl, I7, kk⟩
          refine ⟨_, rfl, I7.box, ?_⟩
          have ga7 : Blk V7 _ _ _ := ga6.keep kk (by simp; have := hf.hR; omega)
          clear kk
          (simp only [Act.put, List.setIfInBounds_toArray, List.set_cons_zero, List.set_cons_succ])
          have hS := I7.box
          (refine ai_val (v := ?_) 6 rfl open_wide hND (by kernel_rfl) (by kernel_rfl) (by kernel_rfl) (by rfl) hPan ?_ hS ?_; rotate_left; (intro w' hSw; go_simp; try with_reducible rfl); simp only [Act.put, List.setIfInBounds_toArray, List.set_cons_zero, List.set_cons_succ])
          refine ai_one 8 (by kernel_rfl) ?_
          refine oi_store_all (t := 70) (cs := #[.int .i64 0, .int .i64 0, .int .i64 0, .int .i64 0, .int .i64 0, .int .i64 0, .int .i64 0, .int .i64 0, .int .i64 0, .int .i64 0, .int .i64 0, .int .i64 0, .int .i64 0, .int .i64 0, .int .i64 0, .int .i64 0, .int .i64 0, .int .i64 0, .int .i64 0, .int .i64 0, .int .i64 0, .int .i64 0, .int .i64 0]) (vs := [.int .i64 r1.1, .int .i64 r2.1, .int .i64 r3.1, .int .i64 0, .int .i64 0, .int .i64 0, .int .i64 0, .int .i64 0, .int .i64 0, .int .i64 0, .int .i64 0, .int .i64 0, .int .i64 0, .int .i64 0, .int .i64 0, .int .i64 0, .int .i64 0, .int .i64 0, .int .i64 0, .int .i64 0, .int .i64 0, .int .i64 0, .int .i64 0]) 8 rfl open_wide hND (by rfl) rfl rfl rfl agg_edge.2 ga7 (by simp [Value.oneCell']) rfl ?_
          intro V8 d9 k9
          have I8 := I7.keepF hf k9 (fun y hy => by simp only [List.mem_cons, List.not_mem_nil, or_false] at hy; omega)
          refine ⟨I8.box, ?_⟩
          (simp only [Act.put])
          exact ai_end (by kernel_rfl) (hQ' _ _ ⟨gq, rfl, gs, d9, I8⟩) _
      · skip
        refine oi_run (v := .pointer (some ⟨World.heap V1 |>.size, 0, none⟩)) (w' := World.alloc V1 (.cells #[.int .i64 0, .int .i64 0, .int .i64 0, .int .i64 0, .int .i64 0, .int .i64 0, .int .i64 0, .int .i64 0, .int .i64 0, .int .i64 0, .int .i64 0, .int .i64 0, .int .i64 0, .int .i64 0, .int .i64 0, .int .i64 0, .int .i64 0, .int .i64 0, .int .i64 0, .int .i64 0, .int .i64 0, .int .i64 0, .int .i64 0] 70)) 7 rfl open_wide hND (by rfl) (by go_simp) ?_
        have I9 := I1.keepF (F := []) hf ((Keep.refl [] V1).alloc (.cells #[.int .i64 0, .int .i64 0, .int .i64 0, .int .i64 0, .int .i64 0, .int .i64 0, .int .i64 0, .int .i64 0, .int .i64 0, .int .i64 0, .int .i64 0, .int .i64 0, .int .i64 0, .int .i64 0, .int .i64 0, .int .i64 0, .int .i64 0, .int .i64 0, .int .i64 0, .int .i64 0, .int .i64 0, .int .i64 0, .int .i64 0] 70)) (fun y hy => by cases hy)
        have ga9 := Blk.new V1 70 #[.int .i64 0, .int .i64 0, .int .i64 0, .int .i64 0, .int .i64 0, .int .i64 0, .int .i64 0, .int .i64 0, .int .i64 0, .int .i64 0, .int .i64 0, .int .i64 0, .int .i64 0, .int .i64 0, .int .i64 0, .int .i64 0, .int .i64 0, .int .i64 0, .int .i64 0, .int .i64 0, .int .i64 0, .int .i64 0, .int .i64 0]
        have gs := I1.siz
        refine ⟨I9.box, ?_⟩
        generalize World.alloc V1 (.cells #[.int .i64 0, .int .i64 0, .int .i64 0, .int .i64 0, .int .i64 0, .int .i64 0, .int .i64 0, .int .i64 0, .int .i64 0, .int .i64 0, .int .i64 0, .int .i64 0, .int .i64 0, .int .i64 0, .int .i64 0, .int .i64 0, .int .i64 0, .int .i64 0, .int .i64 0, .int .i64 0, .int .i64 0, .int .i64 0, .int .i64 0] 70) = V9 at *
        generalize (World.heap V1).size = gq at *
        (simp only [Act.put, List.setIfInBounds_toArray, List.set_cons_zero, List.set_cons_succ])
        refine ai_one 3 (by kernel_rfl) ?_
        refine oi_call (f := 23) 3 rfl open_wide hND (by rfl) rfl (by simp only [List.map_toArray, List.map_cons, List.map_nil]; rfl) Tryd.func23 (by kernel_rfl) (by kernel_rfl) (N2 _ I9).out ?_
        rintro e V10 ⟨rfl, I10, kk⟩
        refine ⟨_, rfl, I10.box, ?_⟩
        have ga10 : Blk V10 _ _ _ := ga9.keep kk (by simp; have := hf.hR; omega)
        clear kk
        (simp only [Act.put, List.setIfInBounds_toArray, List.set_cons_zero, List.set_cons_succ])
        refine ai_one 5 (by kernel_rfl) ?_
        refine oi_call (f := 23) 5 rfl open_wide hND (by rfl) rfl (by simp only [List.map_toArray, List.map_cons, List.map_nil]; rfl) Tryd.func23 (by kernel_rfl) (by kernel_rfl) (N3 _ I10).out ?_
        rintro e V11 ⟨rfl, I11, kk⟩
        refine ⟨_, rfl, I11.box, ?_⟩
        have ga11 : Blk V11 _ _ _ := ga10.keep kk (by simp; have := hf.hR; omega)
        clear kk
        (simp only [Act.put, List.setIfInBounds_toArray, List.set_cons_zero, List.set_cons_succ])
        have hS := I11.box
        (refine ai_val (v := ?_) 6 rfl open_wide hND (by kernel_rfl) (by kernel_rfl) (by kernel_rfl) (by rfl) hPan ?_ hS ?_; rotate_left; (intro w' hSw; go_simp; try with_reducible rfl); simp only [Act.put, List.setIfInBounds_toArray, List.set_cons_zero, List.set_cons_succ])
        refine ai_one 8 (by kernel_rfl) ?_
        refine oi_store_all (t := 70) (cs := #[.int .i64 0, .int .i64 0, .int .i64 0, .int .i64 0, .int .i64 0, .int .i64 0, .int .i64 0, .int .i64 0, .int .i64 0, .int .i64 0, .int .i64 0, .int .i64 0, .int .i64 0, .int .i64 0, .int .i64 0, .int .i64 0, .int .i64 0, .int .i64 0, .int .i64 0, .int .i64 0, .int .i64 0, .int .i64 0, .int .i64 0]) (vs := [.int .i64 r1.1, .int .i64 r2.1, .int .i64 r3.1, .int .i64 0, .int .i64 0, .int .i64 0, .int .i64 0, .int .i64 0, .int .i64 0, .int .i64 0, .int .i64 0, .int .i64 0, .int .i64 0, .int .i64 0, .int .i64 0, .int .i64 0, .int .i64 0, .int .i64 0, .int .i64 0, .int .i64 0, .int .i64 0, .int .i64 0, .int .i64 0]) 8 rfl open_wide hND (by rfl) rfl rfl rfl agg_edge.2 ga11 (by simp [Value.oneCell']) rfl ?_
        intro V12 d9 k9
        have I12 := I11.keepF hf k9 (fun y hy => by simp only [List.mem_cons, List.not_mem_nil, or_false] at hy; omega)
        refine ⟨I12.box, ?_⟩
        (simp only [Act.put])
        exact ai_end (by kernel_rfl) (hQ' _ _ ⟨gq, rfl, gs, d9, I12⟩) _
    · skip
      refine oi_run (v := .pointer (some ⟨World.heap V0 |>.size, 0, none⟩)) (w' := World.alloc V0 (.cells #[.int .i64 0, .int .i64 0, .int .i64 0, .int .i64 0, .int .i64 0, .int .i64 0, .int .i64 0, .int .i64 0, .int .i64 0, .int .i64 0, .int .i64 0, .int .i64 0, .int .i64 0, .int .i64 0, .int .i64 0, .int .i64 0, .int .i64 0, .int .i64 0, .int .i64 0, .int .i64 0, .int .i64 0, .int .i64 0, .int .i64 0] 70)) 7 rfl open_wide hND (by rfl) (by go_simp) ?_
      have I13 := I0.keepF (F := []) hf ((Keep.refl [] V0).alloc (.cells #[.int .i64 0, .int .i64 0, .int .i64 0, .int .i64 0, .int .i64 0, .int .i64 0, .int .i64 0, .int .i64 0, .int .i64 0, .int .i64 0, .int .i64 0, .int .i64 0, .int .i64 0, .int .i64 0, .int .i64 0, .int .i64 0, .int .i64 0, .int .i64 0, .int .i64 0, .int .i64 0, .int .i64 0, .int .i64 0, .int .i64 0] 70)) (fun y hy => by cases hy)
      have ga13 := Blk.new V0 70 #[.int .i64 0, .int .i64 0, .int .i64 0, .int .i64 0, .int .i64 0, .int .i64 0, .int .i64 0, .int .i64 0, .int .i64 0, .int .i64 0, .int .i64 0, .int .i64 0, .int .i64 0, .int .i64 0, .int .i64 0, .int .i64 0, .int .i64 0, .int .i64 0, .int .i64 0, .int .i64 0, .int .i64 0, .int .i64 0, .int .i64 0]
      have gs := I0.siz
      refine ⟨I13.box, ?_⟩
      generalize World.alloc V0 (.cells #[.int .i64 0, .int .i64 0, .int .i64 0, .int .i64 0, .int .i64 0, .int .i64 0, .int .i64 0, .int .i64 0, .int .i64 0, .int .i64 0, .int .i64 0, .int .i64 0, .int .i64 0, .int .i64 0, .int .i64 0, .int .i64 0, .int .i64 0, .int .i64 0, .int .i64 0, .int .i64 0, .int .i64 0, .int .i64 0, .int .i64 0] 70) = V13 at *
      generalize (World.heap V0).size = gq at *
      (simp only [Act.put, List.setIfInBounds_toArray, List.set_cons_zero, List.set_cons_succ])
      refine ai_one 1 (by kernel_rfl) ?_
      refine oi_call (f := 23) 1 rfl open_wide hND (by rfl) rfl (by simp only [List.map_toArray, List.map_cons, List.map_nil]; rfl) Tryd.func23 (by kernel_rfl) (by kernel_rfl) (N1 _ I13).out ?_
      rintro e V14 ⟨rfl, I14, kk⟩
      refine ⟨_, rfl, I14.box, ?_⟩
      have ga14 : Blk V14 _ _ _ := ga13.keep kk (by simp; have := hf.hR; omega)
      clear kk
      (simp only [Act.put, List.setIfInBounds_toArray, List.set_cons_zero, List.set_cons_succ])
      refine ai_one 3 (by kernel_rfl) ?_
      refine oi_call (f := 23) 3 rfl open_wide hND (by rfl) rfl (by simp only [List.map_toArray, List.map_cons, List.map_nil]; rfl) Tryd.func23 (by kernel_rfl) (by kernel_rfl) (N2 _ I14).out ?_
      rintro e V15 ⟨rfl, I15, kk⟩
      refine ⟨_, rfl, I15.box, ?_⟩
      have ga15 : Blk V15 _ _ _ := ga14.keep kk (by simp; have := hf.hR; omega)
      clear kk
      (simp only [Act.put, List.setIfInBounds_toArray, List.set_cons_zero, List.set_cons_succ])
      refine ai_one 5 (by kernel_rfl) ?_
      refine oi_call (f := 23) 5 rfl open_wide hND (by rfl) rfl (by simp only [List.map_toArray, List.map_cons, List.map_nil]; rfl) Tryd.func23 (by kernel_rfl) (by kernel_rfl) (N3 _ I15).out ?_
      rintro e V16 ⟨rfl, I16, kk⟩
      refine ⟨_, rfl, I16.box, ?_⟩
      have ga16 : Blk V16 _ _ _ := ga15.keep kk (by simp; have := hf.hR; omega)
      clear kk
      (simp only [Act.put, List.setIfInBounds_toArray, List.set_cons_zero, List.set_cons_succ])
      have hS := I16.box
      (refine ai_val (v := ?_) 6 rfl open_wide hND (by kernel_rfl) (by kernel_rfl) (by kernel_rfl) (by rfl) hPan ?_ hS ?_; rotate_left; (intro w' hSw; go_simp; try with_reducible rfl); simp only [Act.put, List.setIfInBounds_toArray, List.set_cons_zero, List.set_cons_succ])
      refine ai_one 8 (by kernel_rfl) ?_
      refine oi_store_all (t := 70) (cs := #[.int .i64 0, .int .i64 0, .int .i64 0, .int .i64 0, .int .i64 0, .int .i64 0, .int .i64 0, .int .i64 0, .int .i64 0, .int .i64 0, .int .i64 0, .int .i64 0, .int .i64 0, .int .i64 0, .int .i64 0, .int .i64 0, .int .i64 0, .int .i64 0, .int .i64 0, .int .i64 0, .int .i64 0, .int .i64 0, .int .i64 0]) (vs := [.int .i64 r1.1, .int .i64 r2.1, .int .i64 r3.1, .int .i64 0, .int .i64 0, .int .i64 0, .int .i64 0, .int .i64 0, .int .i64 0, .int .i64 0, .int .i64 0, .int .i64 0, .int .i64 0, .int .i64 0, .int .i64 0, .int .i64 0, .int .i64 0, .int .i64 0, .int .i64 0, .int .i64 0, .int .i64 0, .int .i64 0, .int .i64 0]) 8 rfl open_wide hND (by rfl) rfl rfl rfl agg_edge.2 ga16 (by simp [Value.oneCell']) rfl ?_
      intro V17 d9 k9
      have I17 := I16.keepF hf k9 (fun y hy => by simp only [List.mem_cons, List.not_mem_nil, or_false] at hy; omega)
      refine ⟨I17.box, ?_⟩
      (simp only [Act.put])
      exact ai_end (by kernel_rfl) (hQ' _ _ ⟨gq, rfl, gs, d9, I17⟩) _
  case cont =>
    rintro a' w' ⟨g, rfl, hg, hbg, hI⟩
    have hbg0 : Blk w' g 70 (edgCells ⟨r1.1, r2.1, r3.1, List.replicate 16 0, (mapM4 l r3.2 0).1⟩).toArray := hbg
    have HF := Lib.hid hf
    clear N1 N2 N3 I00 hbg
    gi_wp2
    have HBG := Lib.hid hbg0
    have HI0 := Lib.hid hI
    clear hbg0 hI
    gi_loopw [15] (fun vi wr => ∃ k : Nat, k ≤ 4 ∧ vi = .int .i64 (k : Int) ∧ RdrI (w.heap.size + 3) R w.heap.size A c l X (mapM4 l r3.2 k).2 wr ∧ Blk wr g 70 (edgCells ⟨r1.1, r2.1, r3.1, List.replicate 16 0, (mapM4 l r3.2 k).1⟩).toArray) (fun i _ => 4 - (intOf i).toNat)
    case atStart => exact ⟨0, Nat.zero_le _, rfl, HI0.out, HBG.out⟩
    case round =>
      obtain ⟨k, hk, rfl, hI, hb⟩ := hrel
      by_cases hlt : k < 4
      · have hml := mapM4_len l r3.2 k
        have hsc : mapM4 l r3.2 (k + 1) = ((mapM4 l r3.2 k).1.set k (nextM l (mapM4 l r3.2 k).2 4).1, (nextM l (mapM4 l r3.2 k).2 4).2) := rfl
        obtain ⟨⟨mp, stm⟩, hM⟩ : ∃ p, mapM4 l r3.2 k = p := ⟨_, rfl⟩
        rw [hM] at hI hb hml hsc
        dsimp only at hI hb hml hsc
        have nx := hI.next HF.out 4
        obtain ⟨⟨nv, stn⟩, hN⟩ : ∃ p, nextM l stm 4 = p := ⟨_, rfl⟩
        rw [hN] at nx hsc
        dsimp only at nx hsc
        have HSC := Lib.hid hsc
        have HB := Lib.hid hb
        have c0 : wr.cell? ⟨w.heap.size, 0, none⟩ = some (.pointer (some ⟨R, 0, none⟩)) := by rw [hI.box.cell]; rfl
        have p0 : (0 : Int) ≤ (k : Int) := by omega
        have p1 : (k : Int) < 4 := by omega
        clear hsc hb hI hM hN
        gi_wp2_with (refine ⟨trivial, ?_⟩; gi_at_call 23; refine (callsIn_wide.2 nx).mono ?_; rintro e W4 ⟨rfl, hI4, k4⟩; have HI4 := Lib.hid hI4; have hb4 := HB.out.keep k4 (by simp; omega); have HB4 := Lib.hid hb4; have gc : W4.cell? ⟨g, 19 + k, none⟩ = some (.int .i64 (mp[k]'(by omega))) := (by rw [hb4.cell]; exact edg_atm _ _ _ _ mp k rfl (by omega)); have gf := hb4.frozen (19 + k); clear hI4 k4 hb4 nx)
        have ks := keep_set W4 g (19 + k) (.int .i64 nv)
        have hb5 := HB4.out.set_ (19 + k) (.int .i64 nv)
        rw [edg_setm _ _ _ _ _ _ _ rfl] at hb5
        have hI5 := HI4.out.keepF HF.out ks (fun y hy => by simp only [List.mem_cons, List.not_mem_nil, or_false] at hy; omega)
        generalize W4.setCell ⟨g, 19 + k, none⟩ (.int .i64 nv) = W5 at *
        clear gc gf ks
        go_roundw
        case rel => exact ⟨k + 1, by omega, by go_num, by rw [HSC.out]; exact hI5, by rw [HSC.out]; exact hb5⟩
        case measure => simp [intOf] <;> omega
      · obtain rfl : k = 4 := by omega
        have hml := mapM4_len l r3.2 4
        generalize mapM4 l r3.2 4 = m4 at *
        obtain ⟨mp, stm⟩ := m4
        dsimp only at hml hI hb HTM
        have c2 : wr.cell? ⟨g, 2, none⟩ = some (.int .i64 r3.1) := by rw [hb.cell]; rfl
        obtain ⟨x1, x2, x3, x4⟩ := HX.out wr hI.ext
        by_cases hp3 : r3.1 = 3
        · have hpn : (r3.1 != 3) = false := by simpa using hp3
          have hte : edgeM l x st = _ := HTM.out.trans (if_pos hp3)
          have HFw := HFe wr ⟨r1.1, r2.1, r3.1, List.replicate 16 0, mp⟩ x4 rfl hml
          have hf16 := fresh_16 x ⟨r1.1, r2.1, r3.1, List.replicate 16 0, mp⟩ hset
          generalize freshN x ⟨r1.1, r2.1, r3.1, List.replicate 16 0, mp⟩ = s at *
          have HLE : Hid ((edgCells ⟨r1.1, r2.1, r3.1, List.replicate 16 0, mp⟩).length = 23) := edgCells_len rfl hml
          have HTE : Hid (edgeM l x st = _) := hte
          have HB := Lib.hid hb
          have HI := Lib.hid hI
          have HCI := Lib.hid x2.cellsAt
          have HCD := Lib.hid hb.cellsAt
          generalize hce : edgCells ⟨r1.1, r2.1, r3.1, List.replicate 16 0, mp⟩ = ce at *
          have HX4 := Lib.hid x4
          have HLM := Lib.hid hml
          have HCQ := Lib.hid hce
          clear hte hp3 hI hb x1 x2 x3 x4 hml HTM hce
          gi_wp2_with (first
            | (refine wpListIn_agg rfl 26 (.tmp 3) rfl rfl (cs := il) (by rw [HIL.out]; exact agg_image) HCI.out ?_)
            | (refine wpListIn_agg rfl 70 (.tmp 5) rfl rfl (cs := ce) (by rw [HLE.out]; exact agg_edge) HCD.out ?_)
            | (refine ⟨trivial, ?_⟩; gi_at_call 41; refine (callsIn_wide.2 HFw.out).mono ?_; rintro e w6 ⟨rfl, k6⟩)
            | (refine ⟨trivial, ?_⟩; gi_at_call 40; refine (callsIn_wide.2 (maskAll_any s _)).mono ?_; rintro e w7 ⟨rfl, rfl⟩))
          obtain ⟨W7, hW7⟩ : ∃ W7, w6.alloc (.cells #[.int .u32 (s : Int)] 86) = W7 := ⟨_, rfl⟩
          have K7 : Keep [] wr W7 := by rw [← hW7]; exact k6.alloc _
          have bq : Blk W7 w6.heap.size 86 #[.int .u32 (s : Int)] := by rw [← hW7]; exact Blk.new _ _ _
          have hz7 : W7.heap.size = w6.heap.size + 1 := by rw [← hW7]; simp
          have I7 := HI.out.keepF (F := []) HF.out K7 (fun y hy => by cases hy)
          have bg7 := HB.out.keep0 K7
          rw [← HCQ.out] at bg7
          have hT7 : Tab W7 := (HX.out W7 I7.ext).2.2.1
          simp only [hW7]
          clear hW7 HCI HCD HFw K7
          have hseq := maskAll1_seq 8 s w6.heap.size W7 (by omega) bq (by omega) hT7
          have hgW := bg7.lt
          have hgw6 : g < w6.heap.size := by have := HB.out.lt; have := k6.size; omega
          have hTab := hT7.1
          refine wpIn_rangeT (F := Fence.wide) (n := 9) (Lo := fun _ _ => False) (ps := #[32]) rfl (by omega) (gf := 50) (lb := #[.pointer (some ⟨w6.heap.size, 0, none⟩)]) rfl trivial (enters_of Tryd.func50 (by kernel_rfl) rfl)
            (hseq.toT _) Same.trans (fun W _ o' _ _ => Same.putO (by simp; omega) o') (Below.refl _ _) (fun _ => rfl)
            (fun pre W => RdrI (w.heap.size + 3) R w.heap.size A c l X (offM l pre (List.replicate 16 0) stm).2 W ∧ Blk W g 70 (edgCells ⟨r1.1, r2.1, r3.1, (offM l pre (List.replicate 16 0) stm).1, mp⟩).toArray ∧ Keep [R, g] W7 W)
            (fun _ _ _ => False)
            ?hI ?hIx ⟨I7, bg7, Keep.refl _ _⟩
            (fun x => { tmps := #[.pointer (some ⟨R, 0, none⟩), .agg il.toArray, .pointer (some ⟨w.heap.size, 0, none⟩), .pointer (some ⟨w.heap.size + 1, 0, none⟩), .pointer (some ⟨w.heap.size + 2, 0, none⟩), .pointer (some ⟨g, 0, none⟩), u6, .int .i64 (x : Int), .pointer (some ⟨R, 0, none⟩), .int .i64 r1.1, .pointer (some ⟨R, 0, none⟩), .int .i64 r2.1, .pointer (some ⟨R, 0, none⟩), .int .i64 r3.1, .agg [.int .i64 r1.1, .int .i64 r2.1, .int .i64 r3.1, .int .i64 0, .int .i64 0, .int .i64 0, .int .i64 0, .int .i64 0, .int .i64 0, .int .i64 0, .int .i64 0, .int .i64 0, .int .i64 0, .int .i64 0, .int .i64 0, .int .i64 0, .int .i64 0, .int .i64 0, .int .i64 0, .int .i64 0, .int .i64 0, .int .i64 0, .int .i64 0].toArray,
              .int .i64 4, .bool false, u17, u18, u19, u20, u21, u22, u23, .pointer (some ⟨g, 2, none⟩), .int .i64 r3.1, .bool false, undef, .agg il.toArray, .agg ce.toArray, .int .u32 (s : Int), .func (.func 50) #[] #[.pointer (some ⟨w6.heap.size, 0, none⟩)], .int .i64 (x : Int), undef, undef, undef, undef, undef, undef], defers := [] })
            ?assign ?body ?done ?stop
          case hI =>
            rintro pre X1 Y row ⟨h1, h2, h3⟩ hgr hr
            have k := Keep.of_grown hgr
            have hro : ∀ y ∈ row.toList, W7.heap.size ≤ y := fun y hy => by
              obtain ⟨o, e, ⟨h6, hc⟩ | ⟨_, hfl⟩⟩ := hr y (by simpa using hy)
              · exact h6
              · exact hfl.elim
            have hzz := I7.siz
            have hRR := HF.out.hR
            exact ⟨h1.step HF.out k (fun y hy => .inr (by have := hro y hy; omega)) (h1.rdr.keep k (fun hm => by have := hro _ hm; omega)) h1.le, h2.keep k (fun hm => by have := hro _ hm; omega), h3.trans k (fun y hy hlt => by have := hro y hy; omega)⟩
          case hIx => exact fun _ _ _ _ _ hs _ _ => hs
          case assign =>
            intro l x W K hK
            simp only [encN]
            gi_wp2
            exact hK
          case body =>
            rintro l0 pre x W ⟨hb, hbg, hK⟩ hpre
            have hx16 : x < 16 := by
              have hm : x ∈ bitsL s := hpre.subset (by simp)
              rw [bitsL_N (n := 16) (by omega) (by decide)] at hm
              exact bitsN_lt hm
            have HSN : Hid (offM l (pre ++ [x]) (List.replicate 16 0) stm = offStep l (offM l pre (List.replicate 16 0) stm) x) := offM_snoc _ _ _ _ _
            have hl16 : (offM l pre (List.replicate 16 0) stm).1.length = 16 := by rw [offM_len]; rfl
            obtain ⟨⟨lon, stp⟩, hL⟩ : ∃ p, offM l pre (List.replicate 16 0) stm = p := ⟨_, rfl⟩
            rw [hL] at hb hbg HSN hl16
            dsimp only at hb hbg hl16
            have nx := hb.next HF.out 16384
            obtain ⟨⟨nv, stn⟩, hN⟩ : ∃ p, nextM l stp 16384 = p := ⟨_, rfl⟩
            have HST : Hid (offM l (pre ++ [x]) (List.replicate 16 0) stm = (lon.set x nv, stn)) := by
              show _ = _
              rw [HSN.out]
              unfold offStep
              rw [hN]
            rw [hN] at nx
            dsimp only at nx
            have c0 : W.cell? ⟨w.heap.size, 0, none⟩ = some (.pointer (some ⟨R, 0, none⟩)) := by rw [hb.box.cell]; rfl
            have x0 : (0 : Int) ≤ (x : Int) := by omega
            have x1 : (x : Int) < 16 := by omega
            have HBG := Lib.hid hbg
            have HK := Lib.hid hK
            have HZ : Hid (W7.heap.size ≤ W.heap.size) := hK.size
            have hRR := HF.out.hR
            clear hb hbg hK hL hN HSN hpre
            gi_wp2_with (refine ⟨trivial, ?_⟩; gi_at_call 23; refine (callsIn_wide.2 nx).mono ?_; rintro e W4 ⟨rfl, hI4, k4⟩; have HI4 := Lib.hid hI4; have HK4 := Lib.hid k4; have hb4 := HBG.out.keep k4 (by simp; omega); have HB4 := Lib.hid hb4; have gc : W4.cell? ⟨g, 3 + x, none⟩ = some (.int .i64 (lon[x]'(by omega))) := (by rw [hb4.cell]; exact edg_ato _ _ _ lon _ x (by omega)); have gf := hb4.frozen (3 + x); clear hI4 k4 hb4 nx)
            have ks := keep_set W4 g (3 + x) (.int .i64 nv)
            have hb5 := HB4.out.set_ (3 + x) (.int .i64 nv)
            rw [edg_seto _ _ _ _ _ _ _ (by omega)] at hb5
            have hI5 := HI4.out.keepF HF.out ks (fun y hy => by simp only [List.mem_cons, List.not_mem_nil, or_false] at hy; omega)
            have q3 : Keep [R, g] W (W4.setCell ⟨g, 3 + x, none⟩ (.int .i64 nv)) := (HK4.out.mono (by simp)).trans ks (fun y hy _ => by simp only [List.mem_cons, List.not_mem_nil, or_false] at hy ⊢; omega)
            generalize W4.setCell ⟨g, 3 + x, none⟩ (.int .i64 nv) = W5 at *
            refine ⟨q3.from (fun y hy => .inl (by simp only [List.mem_cons, List.not_mem_nil, or_false] at hy; omega)), Same.keep q3 (fun y hy => by simp only [List.mem_cons, List.not_mem_nil, or_false] at hy ⊢; have := HZ.out; omega), ?_, ?_, HK.out.trans q3 (fun y hy _ => hy)⟩
            · rw [HST.out]; exact hI5
            · rw [HST.out]; exact hb5
          case done =>
            rintro D Wd hD ⟨hb, hbg, hK⟩ hD2
            obtain ⟨hbr, _, _, hkw⟩ := HX.out Wd hb.ext
            have hcs := hbg.cellsAt
            have HLT : Hid ((edgCells ⟨r1.1, r2.1, r3.1, (offM l (bitsL s) (List.replicate 16 0) stm).1, mp⟩).length = 23) := edgCells_len (by dsimp only; rw [offM_len]; rfl) HLM.out
            generalize (offM l (bitsL s) (List.replicate 16 0) stm) = lm at *
            obtain ⟨lon, sf⟩ := lm
            dsimp only at hb hbg hcs HLT
            have hRR := HF.out.hR
            have hzz := I7.siz
            generalize (⟨r1.1, r2.1, r3.1, lon, mp⟩ : Edg) = tt at *
            gi_wp2_with (first
              | (refine wpListIn_agg rfl 70 (.tmp 5) rfl rfl (cs := edgCells tt) (by rw [HLT.out]; exact agg_edge) hcs ?_)
              | (refine stopIn_store 70 (.tmp 4) (.tmp 38) rfl ?_))
            constructor
            refine wpListIn_store_all rfl 70 (.tmp 4) (.tmp 38) rfl rfl rfl (by rw [HLT.out]; kernel_rfl) hbr (iv_one _) (by rw [HLT.out]; rfl) ?_
            intro w5 d5 k5
            have hD3 := k5.block D (Array.getElem?_eq_some_iff.1 hD2).1 (by simp; omega) |>.trans hD2
            gi_wp2
            refine ⟨by simp, .inl ⟨_, _, rfl, run_takeDeferred hD3, ?_⟩⟩
            have m1 := blk_putObj (.deferred none) d5 hD3 rfl
            rw [HTE.out]
            have kp := keep_putObj w5 D (.deferred none)
            refine ⟨_, results_blk rfl _ rfl m1 (by rw [HLT.out]; exact agg_edge), rfl, (hb.rdr.keep k5 (by simp; omega)).keep kp (by simp; omega), (hkw.trans k5 (fun y hy hlt => by simp at hy; omega)).trans kp (fun y hy hlt => by simp at hy; omega)⟩
          case stop =>
            rintro D c' pre Wd hD hpre hf0 hD2
            exact hf0.elim
        · have hpn : (r3.1 != 3) = true := by simpa using hp3
          have hte : edgeM l x st = _ := HTM.out.trans (if_neg hp3)
          have HTE : Hid (edgeM l x st = _) := hte
          have HLT : Hid ((edgCells ⟨r1.1, r2.1, r3.1, List.replicate 16 0, mp⟩).length = 23) := edgCells_len rfl hml
          have hcs := hb.cellsAt
          have hRR := HF.out.hR
          generalize (⟨r1.1, r2.1, r3.1, List.replicate 16 0, mp⟩ : Edg) = tt at *
          clear hte hp3 HTM
          gi_wp2_with (first
            | (refine wpListIn_agg rfl 70 (.tmp 5) rfl rfl (cs := edgCells tt) (by rw [HLT.out]; exact agg_edge) hcs ?_)
            | (refine stopIn_store 70 (.tmp 4) (.tmp 27) rfl ?_))
          constructor
          refine wpListIn_store_all rfl 70 (.tmp 4) (.tmp 27) rfl rfl rfl (by rw [HLT.out]; kernel_rfl) x1 (iv_one _) (by rw [HLT.out]; rfl) ?_
          intro w5 d5 k5
          gi_wp2
          rw [HTE.out]
          refine ⟨_, results_blk rfl _ rfl d5 (by rw [HLT.out]; exact agg_edge), ?_⟩
          exact ⟨rfl, hI.rdr.keep k5 (by simp; omega), x4.trans k5 (fun y hy hlt => by simp at hy; omega)⟩
end Go.Proofs.YtfgjcjpemlgnmaaDoor
