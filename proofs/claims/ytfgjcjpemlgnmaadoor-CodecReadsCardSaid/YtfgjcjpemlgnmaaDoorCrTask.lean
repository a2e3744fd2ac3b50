/- codec's reader: a task; walked. Condition: the table of math/bits lies where the program's text lays it. -/
import Derived.Test.YtfgjcjpemlgnmaaDoorCrRd
namespace Go.Proofs.YtfgjcjpemlgnmaaDoor
open Go.RowKit
attribute [local go_sem] Oper.semAt_some

theorem tsk_set (a b d : Int) (lon : List Int) (k : Nat) (v : Int) : ((tskCells ⟨a, b, d, lon⟩).toArray).setIfInBounds (3 + k) (.int .i64 v) = (tskCells ⟨a, b, d, lon.set k v⟩).toArray := by
  have e : ∀ m, (tskCells ⟨a, b, d, m⟩) = .int .i64 a :: .int .i64 b :: .int .i64 d :: iv m := fun m => rfl
  rw [e, e, List.setIfInBounds_toArray, show 3 + k = k + 1 + 1 + 1 by omega, List.set_cons_succ, List.set_cons_succ, List.set_cons_succ]
  unfold iv
  rw [List.map_set]
theorem tsk_at (a b d : Int) (lon : List Int) (k : Nat) (hk : k < lon.length) : ((tskCells ⟨a, b, d, lon⟩).toArray)[3 + k]? = some (.int .i64 lon[k]) := by
  have e : (tskCells ⟨a, b, d, lon⟩) = .int .i64 a :: .int .i64 b :: .int .i64 d :: iv lon := rfl
  rw [e, List.getElem?_toArray, show 3 + k = k + 1 + 1 + 1 by omega, List.getElem?_cons_succ, List.getElem?_cons_succ, List.getElem?_cons_succ]
  unfold iv
  rw [List.getElem?_map, List.getElem?_eq_getElem hk]
  rfl
theorem lonM_snoc (l : List Int) (ks : List Nat) (k : Nat) (lon : List Int) (st : Nat × Bool) : lonM l (ks ++ [k]) lon st = lonStep l (lonM l ks lon st) k := by
  unfold lonM
  rw [List.foldl_append]
  rfl
theorem lonM_len (l : List Int) : ∀ (ks : List Nat) (lon : List Int) (st : Nat × Bool), (lonM l ks lon st).1.length = lon.length
  | [], _, _ => rfl
  | k :: ks, lon, st => by
    have e : lonM l (k :: ks) lon st = lonM l ks (lonStep l (lon, st) k).1 (lonStep l (lon, st) k).2 := rfl
    rw [e, lonM_len l ks]
    exact List.length_set

set_option maxRecDepth 100000 in
set_option maxHeartbeats 4000000 in
theorem rtask_read (R : Nat) (A : Option Addr) (c : Nat) (l : List Int) (st : Nat × Bool) (w : World) (hb : RdrAt w R A c l st) (hW : Reads w 1 A l.length (uw l)) (hA : 0 < l.length → ∃ b o, A = some ⟨b, o, none⟩ ∧ b ≠ R) (hlt : ∀ n ∈ l, 0 ≤ n ∧ n < 4294967296) (hlen : l.length ≤ 100000) (hp : st.1 ≤ l.length) (hT : Tab w) (hR : 0 < R) :
    Calls Tryd.prog 24 #[.pointer (some ⟨R, 0, none⟩)] w fun e w' =>
      e = .returned (.agg (tskCells (taskM l st).1).toArray) ∧ RdrAt w' R A c l (taskM l st).2 ∧ Keep [R] w w' := by
  rw [← callsIn_wide (n := 9)]
  refine callsIn_of_wp_marks Tryd.func24 rfl trivial ?_ rfl
  simp only [Tryd.ntmps24, List.size_toArray, List.length_cons, List.length_nil, Nat.reduceAdd, Nat.reduceSub, Array.replicate_succ, Array.replicate_zero, List.push_toArray, List.append_toArray, List.nil_append, List.cons_append]
  gi_wp2
  have hRw : R < w.heap.size := hb.lt
  obtain ⟨W0, hW0⟩ : ∃ W0, (w.alloc (.cells #[.pointer (some ⟨R, 0, none⟩)] 72)).alloc (.cells #[.int .i64 0, .int .i64 0, .int .i64 0, .int .i64 0, .int .i64 0, .int .i64 0, .int .i64 0, .int .i64 0, .int .i64 0, .int .i64 0, .int .i64 0] 57) = W0 := ⟨_, rfl⟩
  have K0 : Keep [] w W0 := by rw [← hW0]; exact ((Keep.refl _ w).alloc _).alloc _
  have hz0 : W0.heap.size = w.heap.size + 2 := by rw [← hW0]; simp
  have bres : Blk W0 (w.heap.size + 1) 57 #[.int .i64 0, .int .i64 0, .int .i64 0, .int .i64 0, .int .i64 0, .int .i64 0, .int .i64 0, .int .i64 0, .int .i64 0, .int .i64 0, .int .i64 0] := by
    rw [← hW0]
    have := Blk.new (w.alloc (.cells #[.pointer (some ⟨R, 0, none⟩)] 72)) 57 #[.int .i64 0, .int .i64 0, .int .i64 0, .int .i64 0, .int .i64 0, .int .i64 0, .int .i64 0, .int .i64 0, .int .i64 0, .int .i64 0, .int .i64 0]
    rwa [World.size_alloc] at this
  have hf : RdrF (w.heap.size + 2) R w.heap.size A l (fun W => Blk W (w.heap.size + 1) 57 #[.int .i64 0, .int .i64 0, .int .i64 0, .int .i64 0, .int .i64 0, .int .i64 0, .int .i64 0, .int .i64 0, .int .i64 0, .int .i64 0, .int .i64 0] ∧ Tab W ∧ Keep [R] w W) := by
    refine ⟨by omega, ⟨by omega, by omega⟩, fun h0 => ?_, hlt, hlen, fun W W' F h k hF => ⟨h.1.keep k (fun hm => by rcases hF _ hm with h1 | h1 <;> omega), h.2.1.keep k (fun hm => by rcases hF _ hm with h1 | h1 <;> omega), h.2.2.trans k (fun y hy hlt => by rcases hF y hy with h1 | h1 <;> simp <;> omega)⟩⟩
    obtain ⟨b, o, e, hbw, _⟩ := hW.addr h0
    obtain ⟨b', o', e', hne⟩ := hA h0
    rw [e] at e'
    cases e'
    exact ⟨b, o, e, by omega, hne⟩
  have I00 : RdrI (w.heap.size + 2) R w.heap.size A c l (fun W => Blk W (w.heap.size + 1) 57 #[.int .i64 0, .int .i64 0, .int .i64 0, .int .i64 0, .int .i64 0, .int .i64 0, .int .i64 0, .int .i64 0, .int .i64 0, .int .i64 0, .int .i64 0] ∧ Tab W ∧ Keep [R] w W) st W0 :=
    ⟨by rw [← hW0]; exact (Blk.new _ _ _).alloc _, hb.keep K0 (by simp), hW.keep0 K0, hp, ⟨bres, hT.keep0 K0, K0.mono (by simp)⟩, by omega⟩
  have HW0 := Lib.hid hW0
  have HK0 := Lib.hid K0
  simp only [hW0]
  obtain ⟨r1, h1⟩ : ∃ r, nextM l st 4096 = r := ⟨_, rfl⟩
  obtain ⟨r2, h2⟩ : ∃ r, nextM l r1.2 4096 = r := ⟨_, rfl⟩
  obtain ⟨r3, h3⟩ : ∃ r, nextM l r2.2 4096 = r := ⟨_, rfl⟩
  obtain ⟨r4, h4⟩ : ∃ r, nextM l r3.2 255 = r := ⟨_, rfl⟩
  have h4b := nextM_in l hlt r3.2 255 (by decide)
  rw [h4] at h4b
  have HTM : Hid (taskM l st = (⟨r1.1, r2.1, r3.1, (lonM l (bitsL r4.1.toNat) (List.replicate 8 0) r4.2).1⟩, (lonM l (bitsL r4.1.toNat) (List.replicate 8 0) r4.2).2)) := by show _ = _; unfold taskM; simp only [h1, h2, h3, h4]
  have hXX : ∀ W, (fun W => Blk W (w.heap.size + 1) 57 #[.int .i64 0, .int .i64 0, .int .i64 0, .int .i64 0, .int .i64 0, .int .i64 0, .int .i64 0, .int .i64 0, .int .i64 0, .int .i64 0, .int .i64 0] ∧ Tab W ∧ Keep [R] w W) W → Blk W (w.heap.size + 1) 57 #[.int .i64 0, .int .i64 0, .int .i64 0, .int .i64 0, .int .i64 0, .int .i64 0, .int .i64 0, .int .i64 0, .int .i64 0, .int .i64 0, .int .i64 0] ∧ Tab W ∧ Keep [R] w W := fun W h => h
  generalize (fun W => Blk W (w.heap.size + 1) 57 #[.int .i64 0, .int .i64 0, .int .i64 0, .int .i64 0, .int .i64 0, .int .i64 0, .int .i64 0, .int .i64 0, .int .i64 0, .int .i64 0, .int .i64 0] ∧ Tab W ∧ Keep [R] w W) = X at *
  have HX := Lib.hid hXX
  clear hXX
  have N1 := fun W (hI : RdrI (w.heap.size + 2) R w.heap.size A c l X st W) => Lib.hid (hI.next hf 4096)
  have N2 := fun W (hI : RdrI (w.heap.size + 2) R w.heap.size A c l X r1.2 W) => Lib.hid (hI.next hf 4096)
  have N3 := fun W (hI : RdrI (w.heap.size + 2) R w.heap.size A c l X r2.2 W) => Lib.hid (hI.next hf 4096)
  have N4 := fun W (hI : RdrI (w.heap.size + 2) R w.heap.size A c l X r3.2 W) => Lib.hid (hI.next hf 255)
  rw [h1] at N1
  rw [h2] at N2
  rw [h3] at N3
  rw [h4] at N4
  clear h1 h2 h3 h4 hb hW hp hT hW0 K0 bres hA
  refine region_post (fun a' w' => ∃ g, a' = { tmps := #[.pointer (some ⟨R, 0, none⟩), .pointer (some ⟨w.heap.size, 0, none⟩), .pointer (some ⟨w.heap.size + 1, 0, none⟩), .pointer (some ⟨g, 0, none⟩), undef, .pointer (some ⟨R, 0, none⟩), .int .i64 r1.1, .pointer (some ⟨R, 0, none⟩), .int .i64 r2.1, .pointer (some ⟨R, 0, none⟩), .int .i64 r3.1, .agg [.int .i64 r1.1, .int .i64 r2.1, .int .i64 r3.1, .int .i64 0, .int .i64 0, .int .i64 0, .int .i64 0, .int .i64 0, .int .i64 0, .int .i64 0, .int .i64 0].toArray, undef, undef, undef, undef, undef, undef, undef, undef, undef, undef, undef, undef, undef, undef, undef, undef, undef, undef, undef, undef, undef, undef, undef, undef, undef], defers := [] } ∧ w.heap.size + 2 ≤ g ∧ Blk w' g 57 [.int .i64 r1.1, .int .i64 r2.1, .int .i64 r3.1, .int .i64 0, .int .i64 0, .int .i64 0, .int .i64 0, .int .i64 0, .int .i64 0, .int .i64 0, .int .i64 0].toArray ∧ RdrI (w.heap.size + 2) R w.heap.size A c l X r3.2 w') (fun Q' hQ' => ?tree) ?cont
  case tree =>
    have I0 := I00.keepF (F := []) hf (Keep.refl _ W0).drew (fun y hy => by cases hy)
    refine ai_start (fun w' => Blk w' w.heap.size 72 #[.pointer (some ⟨R, 0, none⟩)]) rfl rfl I0.box (fun hND hS hPan => ?_)
    have hSF : ∀ w', Blk w' w.heap.size 72 #[.pointer (some ⟨R, 0, none⟩)] → w'.cell? ⟨w.heap.size, 0, none⟩ = some (.pointer (some ⟨R, 0, none⟩)) ∧ True := fun w' h => ⟨by rw [h.cell]; rfl, trivial⟩
    generalize W0.drew = V0 at *
    (refine ai_val (v := ?_) 0 rfl open_wide hND (by kernel_rfl) (by kernel_rfl) (by kernel_rfl) (by rfl) hPan ?_ hS ?_; rotate_left; (intro w' hSw; obtain ⟨f0, _f⟩ := hSF w' hSw; go_simp; try with_reducible rfl); simp only [Act.put, List.setIfInBounds_toArray, List.set_cons_zero, List.set_cons_succ])
    (refine ai_val (v := ?_) 2 rfl open_wide hND (by kernel_rfl) (by kernel_rfl) (by kernel_rfl) (by rfl) hPan ?_ hS ?_; rotate_left; (intro w' hSw; obtain ⟨f0, _f⟩ := hSF w' hSw; go_simp; try with_reducible rfl); simp only [Act.put, List.setIfInBounds_toArray, List.set_cons_zero, List.set_cons_succ])
    (refine ai_val (v := ?_) 4 rfl open_wide hND (by kernel_rfl) (by kernel_rfl) (by kernel_rfl) (by rfl) hPan ?_ hS ?_; rotate_left; (intro w' hSw; obtain ⟨f0, _f⟩ := hSF w' hSw; go_simp; try with_reducible rfl); simp only [Act.put, List.setIfInBounds_toArray, List.set_cons_zero, List.set_cons_succ])
    refine ai_two 1 7 (by kernel_rfl) ?_ ?_
    · skip
      refine oi_call (f := 23) 1 rfl open_wide hND (by rfl) rfl (by simp only [List.map_toArray, List.map_cons, List.map_nil]; rfl) Tryd.func23 (by kernel_rfl) (by kernel_rfl) (N1 _ I0).out ?_
      rintro e V1 ⟨rfl, I1, kk⟩
      refine ⟨_, rfl, I1.box, ?_⟩
      clear kk
      (simp only [Act.put, List.setIfInBounds_toArray, List.set_cons_zero, List.set_cons_succ])
      refine ai_two 3 7 (by kernel_rfl) ?_ ?_
      · skip
        refine oi_call (f := 23) 3 rfl open_wide hND (by rfl) rfl (by simp only [List.map_toArray, List.map_cons, List.map_nil]; rfl) Tryd.func23 (by kernel_rfl) (by kernel_rfl) (N2 _ I1).out ?_
        rintro e V2 ⟨rfl, I2, kk⟩
        refine ⟨_, rfl, I2.box, ?_⟩
        clear kk
        (simp only [Act.put, List.setIfInBounds_toArray, List.set_cons_zero, List.set_cons_succ])
        refine ai_two 5 7 (by kernel_rfl) ?_ ?_
        · skip
          refine oi_call (f := 23) 5 rfl open_wide hND (by rfl) rfl (by simp only [List.map_toArray, List.map_cons, List.map_nil]; rfl) Tryd.func23 (by kernel_rfl) (by kernel_rfl) (N3 _ I2).out ?_
          rintro e V3 ⟨rfl, I3, kk⟩
          refine ⟨_, rfl, I3.box, ?_⟩
          clear kk
          (simp only [Act.put, List.setIfInBounds_toArray, List.set_cons_zero, List.set_cons_succ])
          have hS := I3.box
          (refine ai_val (v := ?_) 6 rfl open_wide hND (by kernel_rfl) (by kernel_rfl) (by kernel_rfl) (by rfl) hPan ?_ hS ?_; rotate_left; (intro w' hSw; go_simp; try with_reducible rfl); simp only [Act.put, List.setIfInBounds_toArray, List.set_cons_zero, List.set_cons_succ])
          refine ai_one 7 (by kernel_rfl) ?_
          refine oi_run (v := .pointer (some ⟨World.heap V3 |>.size, 0, none⟩)) (w' := World.alloc V3 (.cells #[.int .i64 0, .int .i64 0, .int .i64 0, .int .i64 0, .int .i64 0, .int .i64 0, .int .i64 0, .int .i64 0, .int .i64 0, .int .i64 0, .int .i64 0] 57)) 7 rfl open_wide hND (by rfl) (by go_simp) ?_
          have I4 := I3.keepF (F := []) hf ((Keep.refl [] V3).alloc (.cells #[.int .i64 0, .int .i64 0, .int .i64 0, .int .i64 0, .int .i64 0, .int .i64 0, .int .i64 0, .int .i64 0, .int .i64 0, .int .i64 0, .int .i64 0] 57)) (fun y hy => by cases hy)
          have ga4 := Blk.new V3 57 #[.int .i64 0, .int .i64 0, .int .i64 0, .int .i64 0, .int .i64 0, .int .i64 0, .int .i64 0, .int .i64 0, .int .i64 0, .int .i64 0, .int .i64 0]
          have gs := I3.siz
          refine ⟨I4.box, ?_⟩
          generalize World.alloc V3 (.cells #[.int .i64 0, .int .i64 0, .int .i64 0, .int .i64 0, .int .i64 0, .int .i64 0, .int .i64 0, .int .i64 0, .int .i64 0, .int .i64 0, .int .i64 0] 57) = V4 at *
          generalize (World.heap V3).size = gq at *
          (simp only [Act.put, List.setIfInBounds_toArray, List.set_cons_zero, List.set_cons_succ])
          refine ai_one 8 (by kernel_rfl) ?_
          refine oi_store_all (t := 57) (cs := #[.int .i64 0, .int .i64 0, .int .i64 0, .int .i64 0, .int .i64 0, .int .i64 0, .int .i64 0, .int .i64 0, .int .i64 0, .int .i64 0, .int .i64 0]) (vs := [.int .i64 r1.1, .int .i64 r2.1, .int .i64 r3.1, .int .i64 0, .int .i64 0, .int .i64 0, .int .i64 0, .int .i64 0, .int .i64 0, .int .i64 0, .int .i64 0]) 8 rfl open_wide hND (by rfl) rfl rfl rfl agg_task.2 ga4 (by simp [Value.oneCell']) rfl ?_
          intro V5 d9 k9
          have I5 := I4.keepF hf k9 (fun y hy => by simp only [List.mem_cons, List.not_mem_nil, or_false] at hy; omega)
          refine ⟨I5.box, ?_⟩
          (simp only [Act.put])
          exact ai_end (by kernel_rfl) (hQ' _ _ ⟨gq, rfl, gs, d9, I5⟩) _
        · skip
          refine oi_run (v := .pointer (some ⟨World.heap V2 |>.size, 0, none⟩)) (w' := World.alloc V2 (.cells #[.int .i64 0, .int .i64 0, .int .i64 0, .int .i64 0, .int .i64 0, .int .i64 0, .int .i64 0, .int .i64 0, .int .i64 0, .int .i64 0, .int .i64 0] 57)) 7 rfl open_wide hND (by rfl) (by go_simp) ?_
          have I6 := I2.keepF (F := []) hf ((Keep.refl [] V2).alloc (.cells #[.int .i64 0, .int .i64 0, .int .i64 0, .int .i64 0, .int .i64 0, .int .i64 0, .int .i64 0, .int .i64 0, .int .i64 0, .int .i64 0, .int .i64 0] 57)) (fun y hy => by cases hy)
          have ga6 := Blk.new V2 57 #[.int .i64 0, .int .i64 0, .int .i64 0, .int .i64 0, .int .i64 0, .int .i64 0, .int .i64 0, .int .i64 0, .int .i64 0, .int .i64 0, .int .i64 0]
          have gs := I2.siz
          refine ⟨I6.box, ?_⟩
          generalize World.alloc V2 (.cells #[.int .i64 0, .int .i64 0, .int .i64 0, .int .i64 0, .int .i64 0, .int .i64 0, .int .i64 0, .int .i64 0, .int .i64 0, .int .i64 0, .int .i64 0] 57) = V6 at *
          generalize (World.heap V2).size = gq at *
          (simp only [Act.put, List.setIfInBounds_toArray, List.set_cons_zero, List.set_cons_succ])
          refine ai_one 5 (by kernel_rfl) ?_
          refine oi_call (f := 23) 5 rfl open_wide hND (by rfl) rfl (by simp only [List.map_toArray, List.map_cons, List.map_nil]; rfl) Tryd.func23 (by kernel_rfl) (by kernel_rfl) (N3 _ I6).out ?_
          rintro e V7 ⟨rfl, I7, kk⟩
          refine ⟨_, rfl, I7.box, ?_⟩
          have ga7 : Blk V7 _ _ _ := ga6.keep kk (by simp; have := hf.hR; omega)
          clear kk
          (simp only [Act.put, List.setIfInBounds_toArray, List.set_cons_zero, List.set_cons_succ])
          have hS := I7.box
          (refine ai_val (v := ?_) 6 rfl open_wide hND (by kernel_rfl) (by kernel_rfl) (by kernel_rfl) (by rfl) hPan ?_ hS ?_; rotate_left; (intro w' hSw; go_simp; try with_reducible rfl); simp only [Act.put, List.setIfInBounds_toArray, List.set_cons_zero, List.set_cons_succ])
          refine ai_one 8 (by kernel_rfl) ?_
          refine oi_store_all (t := 57) (cs := #[.int .i64 0, .int .i64 0, .int .i64 0, .int .i64 0, .int .i64 0, .int .i64 0, .int .i64 0, .int .i64 0, .int .i64 0, .int .i64 0, .int .i64 0]) (vs := [.int .i64 r1.1, .int .i64 r2.1, .int .i64 r3.1, .int .i64 0, .int .i64 0, .int .i64 0, .int .i64 0, .int .i64 0, .int .i64 0, .int .i64 0, .int .i64 0]) 8 rfl open_wide hND (by rfl) rfl rfl rfl agg_task.2 ga7 (by simp [Value.oneCell']) rfl ?_
          intro V8 d9 k9
          have I8 := I7.keepF hf k9 (fun y hy => by simp only [List.mem_cons, List.not_mem_nil, or_false] at hy; omega)
          refine ⟨I8.box, ?_⟩
          (simp only [Act.put])
          exact ai_end (by kernel_rfl) (hQ' _ _ ⟨gq, rfl, gs, d9, I8⟩) _
      · skip
        refine oi_run (v := .pointer (some ⟨World.heap V1 |>.size, 0, none⟩)) (w' := World.alloc V1 (.cells #[.int .i64 0, .int .i64 0, .int .i64 0, .int .i64 0, .int .i64 0, .int .i64 0, .int .i64 0, .int .i64 0, .int .i64 0, .int .i64 0, .int .i64 0] 57)) 7 rfl open_wide hND (by rfl) (by go_simp) ?_
        have I9 := I1.keepF (F := []) hf ((Keep.refl [] V1).alloc (.cells #[.int .i64 0, .int .i64 0, .int .i64 0, .int .i64 0, .int .i64 0, .int .i64 0, .int .i64 0, .int .i64 0, .int .i64 0, .int .i64 0, .int .i64 0] 57)) (fun y hy => by cases hy)
        have ga9 := Blk.new V1 57 #[.int .i64 0, .int .i64 0, .int .i64 0, .int .i64 0, .int .i64 0, .int .i64 0, .int .i64 0, .int .i64 0, .int .i64 0, .int .i64 0, .int .i64 0]
        have gs := I1.siz
        refine ⟨I9.box, ?_⟩
        generalize World.alloc V1 (.cells #[.int .i64 0, .int .i64 0, .int .i64 0, .int .i64 0, .int .i64 0, .int .i64 0, .int .i64 0, .int .i64 0, .int .i64 0, .int .i64 0, .int .i64 0] 57) = V9 at *
        generalize (World.heap V1).size = gq at *
        (simp only [Act.put, List.setIfInBounds_toArray, List.set_cons_zero, List.set_cons_succ])
        refine ai_one 3 (by kernel_rfl) ?_
        refine oi_call (f := 23) 3 rfl open_wide hND (by rfl) rfl (by simp only [List.map_toArray, List.map_cons, List.map_nil]; rfl) Tryd.func23 (by kernel_rfl) (by kernel_rfl) (N2 _ I9).out ?_
        rintro e V10 ⟨rfl, I10, kk⟩
        refine ⟨_, rfl, I10.box, ?_⟩
        have ga10 : Blk V10 _ _ _ := ga9.keep kk (by simp; have := hf.hR; omega)
        clear kk
        (simp only [Act.put, List.setIfInBounds_toArray, List.set_cons_zero, List.set_cons_succ])
        refine ai_one 5 (by kernel_rfl) ?_
        refine oi_call (f := 23) 5 rfl open_wide hND (by rfl) rfl (by simp only [List.map_toArray, List.map_cons, List.map_nil]; rfl) Tryd.func23 (by kernel_rfl) (by kernel_rfl) (N3 _ I10).out ?_
        rintro e V11 ⟨rfl, I11, kk⟩
        refine ⟨_, rfl, I11.box, ?_⟩
        have ga11 : Blk V11 _ _ _ := ga10.keep kk (by simp; have := hf.hR; omega)
        clear kk
        (simp only [Act.put, List.setIfInBounds_toArray, List.set_cons_zero, List.set_cons_succ])
        have hS := I11.box
        (refine ai_val (v := ?_) 6 rfl open_wide hND (by kernel_rfl) (by kernel_rfl) (by kernel_rfl) (by rfl) hPan ?_ hS ?_; rotate_left; (intro w' hSw; go_simp; try with_reducible rfl); simp only [Act.put, List.setIfInBounds_toArray, List.set_cons_zero, List.set_cons_succ])
        refine ai_one 8 (by kernel_rfl) ?_
        refine oi_store_all (t := 57) (cs := #[.int .i64 0, .int .i64 0, .int .i64 0, .int .i64 0, .int .i64 0, .int .i64 0, .int .i64 0, .int .i64 0, .int .i64 0, .int .i64 0, .int .i64 0]) (vs := [.int .i64 r1.1, .int .i64 r2.1, .int .i64 r3.1, .int .i64 0, .int .i64 0, .int .i64 0, .int .i64 0, .int .i64 0, .int .i64 0, .int .i64 0, .int .i64 0]) 8 rfl open_wide hND (by rfl) rfl rfl rfl agg_task.2 ga11 (by simp [Value.oneCell']) rfl ?_
        intro V12 d9 k9
        have I12 := I11.keepF hf k9 (fun y hy => by simp only [List.mem_cons, List.not_mem_nil, or_false] at hy; omega)
        refine ⟨I12.box, ?_⟩
        (simp only [Act.put])
        exact ai_end (by kernel_rfl) (hQ' _ _ ⟨gq, rfl, gs, d9, I12⟩) _
    · skip
      refine oi_run (v := .pointer (some ⟨World.heap V0 |>.size, 0, none⟩)) (w' := World.alloc V0 (.cells #[.int .i64 0, .int .i64 0, .int .i64 0, .int .i64 0, .int .i64 0, .int .i64 0, .int .i64 0, .int .i64 0, .int .i64 0, .int .i64 0, .int .i64 0] 57)) 7 rfl open_wide hND (by rfl) (by go_simp) ?_
      have I13 := I0.keepF (F := []) hf ((Keep.refl [] V0).alloc (.cells #[.int .i64 0, .int .i64 0, .int .i64 0, .int .i64 0, .int .i64 0, .int .i64 0, .int .i64 0, .int .i64 0, .int .i64 0, .int .i64 0, .int .i64 0] 57)) (fun y hy => by cases hy)
      have ga13 := Blk.new V0 57 #[.int .i64 0, .int .i64 0, .int .i64 0, .int .i64 0, .int .i64 0, .int .i64 0, .int .i64 0, .int .i64 0, .int .i64 0, .int .i64 0, .int .i64 0]
      have gs := I0.siz
      refine ⟨I13.box, ?_⟩
      generalize World.alloc V0 (.cells #[.int .i64 0, .int .i64 0, .int .i64 0, .int .i64 0, .int .i64 0, .int .i64 0, .int .i64 0, .int .i64 0, .int .i64 0, .int .i64 0, .int .i64 0] 57) = V13 at *
      generalize (World.heap V0).size = gq at *
      (simp only [Act.put, List.setIfInBounds_toArray, List.set_cons_zero, List.set_cons_succ])
      refine ai_one 1 (by kernel_rfl) ?_
      refine oi_call (f := 23) 1 rfl open_wide hND (by rfl) rfl (by simp only [List.map_toArray, List.map_cons, List.map_nil]; rfl) Tryd.func23 (by kernel_rfl) (by kernel_rfl) (N1 _ I13).out ?_
      rintro e V14 ⟨rfl, I14, kk⟩
      refine ⟨_, rfl, I14.box, ?_⟩
      have ga14 : Blk V14 _ _ _ := ga13.keep kk (by simp; have := hf.hR; omega)
      clear kk
      (simp only [Act.put, List.setIfInBounds_toArray, List.set_cons_zero, List.set_cons_succ])
      refine ai_one 3 (by kernel_rfl) ?_
      refine oi_call (f := 23) 3 rfl open_wide hND (by rfl) rfl (by simp only [List.map_toArray, List.map_cons, List.map_nil]; rfl) Tryd.func23 (by kernel_rfl) (by kernel_rfl) (N2 _ I14).out ?_
      rintro e V15 ⟨rfl, I15, kk⟩
      refine ⟨_, rfl, I15.box, ?_⟩
      have ga15 : Blk V15 _ _ _ := ga14.keep kk (by simp; have := hf.hR; omega)
      clear kk
      (simp only [Act.put, List.setIfInBounds_toArray, List.set_cons_zero, List.set_cons_succ])
      refine ai_one 5 (by kernel_rfl) ?_
      refine oi_call (f := 23) 5 rfl open_wide hND (by rfl) rfl (by simp only [List.map_toArray, List.map_cons, List.map_nil]; rfl) Tryd.func23 (by kernel_rfl) (by kernel_rfl) (N3 _ I15).out ?_
      rintro e V16 ⟨rfl, I16, kk⟩
      refine ⟨_, rfl, I16.box, ?_⟩
      have ga16 : Blk V16 _ _ _ := ga15.keep kk (by simp; have := hf.hR; omega)
      clear kk
      (simp only [Act.put, List.setIfInBounds_toArray, List.set_cons_zero, List.set_cons_succ])
      have hS := I16.box
      (refine ai_val (v := ?_) 6 rfl open_wide hND (by kernel_rfl) (by kernel_rfl) (by kernel_rfl) (by rfl) hPan ?_ hS ?_; rotate_left; (intro w' hSw; go_simp; try with_reducible rfl); simp only [Act.put, List.setIfInBounds_toArray, List.set_cons_zero, List.set_cons_succ])
      refine ai_one 8 (by kernel_rfl) ?_
      refine oi_store_all (t := 57) (cs := #[.int .i64 0, .int .i64 0, .int .i64 0, .int .i64 0, .int .i64 0, .int .i64 0, .int .i64 0, .int .i64 0, .int .i64 0, .int .i64 0, .int .i64 0]) (vs := [.int .i64 r1.1, .int .i64 r2.1, .int .i64 r3.1, .int .i64 0, .int .i64 0, .int .i64 0, .int .i64 0, .int .i64 0, .int .i64 0, .int .i64 0, .int .i64 0]) 8 rfl open_wide hND (by rfl) rfl rfl rfl agg_task.2 ga16 (by simp [Value.oneCell']) rfl ?_
      intro V17 d9 k9
      have I17 := I16.keepF hf k9 (fun y hy => by simp only [List.mem_cons, List.not_mem_nil, or_false] at hy; omega)
      refine ⟨I17.box, ?_⟩
      (simp only [Act.put])
      exact ai_end (by kernel_rfl) (hQ' _ _ ⟨gq, rfl, gs, d9, I17⟩) _
  case cont =>
    rintro a' w' ⟨g, rfl, hg, hbg, hI⟩
    obtain ⟨v4, st4⟩ := r4
    dsimp only at h4b HTM N4
    obtain ⟨s4, rfl⟩ : ∃ s : Nat, v4 = (s : Int) := ⟨v4.toNat, by omega⟩
    rw [Int.toNat_natCast] at HTM
    have hs4 : s4 < 256 := by omega
    have hwr : IntKind.u32.wrap (s4 : Int) = (s4 : Int) := IntWalk.u32_in _ (by omega)
    have c0 : w'.cell? ⟨w.heap.size, 0, none⟩ = some (.pointer (some ⟨R, 0, none⟩)) := by rw [hI.box.cell]; rfl
    have n4 := (N4 w' hI).out
    have HF := Lib.hid hf
    have HBG := Lib.hid hbg
    have HG := Lib.hid hg
    clear N1 N2 N3 N4 I00 hbg hg h4b hI
    gi_wp2_with (first
      | (refine ⟨trivial, ?_⟩; gi_at_call 23; refine (callsIn_wide.2 n4).mono ?_; rintro e w2 ⟨rfl, hI2, k2⟩; have HI2 := Lib.hid hI2; have HBG2 := Lib.hid (HBG.out.keep k2 (by simp; have := HG.out; omega)); clear n4 hI2 k2 HBG)
      | (refine ⟨trivial, ?_⟩; gi_at_call 40; refine (callsIn_wide.2 (maskAll_any s4 _)).mono ?_; rintro e w3 ⟨rfl, rfl⟩))
    obtain ⟨W3, hW3⟩ : ∃ W3, w2.alloc (.cells #[.int .u32 (s4 : Int)] 86) = W3 := ⟨_, rfl⟩
    have K3 : Keep [] w2 W3 := by rw [← hW3]; exact (Keep.refl _ w2).alloc _
    have bq : Blk W3 w2.heap.size 86 #[.int .u32 (s4 : Int)] := by rw [← hW3]; exact Blk.new _ _ _
    have hz3 : W3.heap.size = w2.heap.size + 1 := by rw [← hW3]; simp
    have I3 := HI2.out.keepF (F := []) hf K3 (fun y hy => by cases hy)
    have bg3 := HBG2.out.keep0 K3
    have hT3 : Tab W3 := (HX.out W3 I3.ext).2.1
    simp only [hW3]
    clear hW3
    have hseq := maskAll1_seq 8 s4 w2.heap.size W3 (by omega) bq (by omega) hT3
    have hgW := bg3.lt
    have hgw2 := HBG2.out.lt
    have hsz2 := HI2.out.siz
    have hg := HG.out
    have hTab := hT3.1
    refine wpIn_rangeT (F := Fence.wide) (n := 9) (Lo := fun _ _ => False) (ps := #[16]) rfl (by omega) (gf := 50) (lb := #[.pointer (some ⟨w2.heap.size, 0, none⟩)]) rfl trivial (enters_of Tryd.func50 (by kernel_rfl) rfl)
      (hseq.toT _) Same.trans (fun W _ o' _ _ => Same.putO (by simp; omega) o') (Below.refl _ _) (fun _ => rfl)
      (fun pre W => RdrI (w.heap.size + 2) R w.heap.size A c l X (lonM l pre (List.replicate 8 0) st4).2 W ∧ Blk W g 57 (tskCells ⟨r1.1, r2.1, r3.1, (lonM l pre (List.replicate 8 0) st4).1⟩).toArray ∧ Keep [R, g] W3 W)
      (fun _ _ _ => False)
      ?hI ?hIx ⟨I3, bg3, Keep.refl _ _⟩
      (fun x => { tmps := #[.pointer (some ⟨R, 0, none⟩), .pointer (some ⟨w.heap.size, 0, none⟩), .pointer (some ⟨w.heap.size + 1, 0, none⟩), .pointer (some ⟨g, 0, none⟩), .int .i64 (x : Int), .pointer (some ⟨R, 0, none⟩), .int .i64 r1.1, .pointer (some ⟨R, 0, none⟩), .int .i64 r2.1, .pointer (some ⟨R, 0, none⟩), .int .i64 r3.1, .agg [.int .i64 r1.1, .int .i64 r2.1, .int .i64 r3.1, .int .i64 0, .int .i64 0, .int .i64 0, .int .i64 0, .int .i64 0, .int .i64 0, .int .i64 0, .int .i64 0].toArray, .pointer (some ⟨R, 0, none⟩), .int .i64 (s4 : Int), .int .u32 (s4 : Int), .func (.func 50) #[] #[.pointer (some ⟨w2.heap.size, 0, none⟩)], .int .i64 (x : Int), undef, undef, undef, undef, undef, undef, undef, undef, undef, undef, undef, undef, undef, undef, undef, undef, undef, undef, undef, undef], defers := [] })
      ?assign ?body ?done ?stop
    case hI =>
      rintro pre X1 Y row ⟨h1, h2, h3⟩ hgr hr
      have k := Keep.of_grown hgr
      have hro : ∀ y ∈ row.toList, W3.heap.size ≤ y := fun y hy => by
        obtain ⟨o, e, ⟨h6, hc⟩ | ⟨_, hfl⟩⟩ := hr y (by simpa using hy)
        · exact h6
        · exact hfl.elim
      exact ⟨h1.step hf k (fun y hy => .inr (by have := hro y hy; omega)) (h1.rdr.keep k (fun hm => by have := hro _ hm; omega)) h1.le, h2.keep k (fun hm => by have := hro _ hm; omega), h3.trans k (fun y hy hlt => by have := hro y hy; omega)⟩
    case hIx => exact fun _ _ _ _ _ hs _ _ => hs
    case assign =>
      intro l x W K hK
      simp only [encN]
      gi_wp2
      exact hK
    case body =>
      rintro l0 pre x W ⟨hb, hbg, hK⟩ hpre
      have hx8 : x < 8 := by
        have hm : x ∈ bitsL s4 := hpre.subset (by simp)
        rw [bitsL_N (n := 8) (by omega) (by decide)] at hm
        exact bitsN_lt hm
      have HSN : Hid (lonM l (pre ++ [x]) (List.replicate 8 0) st4 = lonStep l (lonM l pre (List.replicate 8 0) st4) x) := lonM_snoc _ _ _ _ _
      have hl8 : (lonM l pre (List.replicate 8 0) st4).1.length = 8 := by rw [lonM_len]; rfl
      obtain ⟨⟨lon, stp⟩, hL⟩ : ∃ p, lonM l pre (List.replicate 8 0) st4 = p := ⟨_, rfl⟩
      rw [hL] at hb hbg HSN hl8
      dsimp only at hb hbg hl8
      have nx := hb.next hf 4096
      obtain ⟨⟨nv, np, nb⟩, hN⟩ : ∃ p, nextM l stp 4096 = p := ⟨_, rfl⟩
      have HST : Hid (lonM l (pre ++ [x]) (List.replicate 8 0) st4 = (lon.set x nv, np, nb || nv == 0)) := by
        show _ = _
        rw [HSN.out]
        unfold lonStep
        rw [hN]
      rw [hN] at nx
      dsimp only at nx
      have c0 : W.cell? ⟨w.heap.size, 0, none⟩ = some (.pointer (some ⟨R, 0, none⟩)) := by rw [hb.box.cell]; rfl
      have x0 : (0 : Int) ≤ (x : Int) := by omega
      have x1 : (x : Int) < 8 := by omega
      have HBG := Lib.hid hbg
      have HK := Lib.hid hK
      have HZ : Hid (W3.heap.size ≤ W.heap.size) := hK.size
      clear hb hbg hK hL hN HSN hpre
      gi_wp2_with (refine ⟨trivial, ?_⟩; gi_at_call 23; refine (callsIn_wide.2 nx).mono ?_; rintro e W4 ⟨rfl, hI4, k4⟩; have HI4 := Lib.hid hI4; have HK4 := Lib.hid k4; have hb4 := HBG.out.keep k4 (by simp; omega); have HB4 := Lib.hid hb4; have gc : W4.cell? ⟨g, 3 + x, none⟩ = some (.int .i64 (lon[x]'(by omega))) := (by rw [hb4.cell]; exact tsk_at _ _ _ lon x (by omega)); have gf := hb4.frozen (3 + x); clear hI4 k4 hb4 nx)
      have ks := keep_set W4 g (3 + x) (.int .i64 nv)
      have hb5 := HB4.out.set_ (3 + x) (.int .i64 nv)
      rw [tsk_set] at hb5
      have hI5 := HI4.out.keepF hf ks (fun y hy => by simp only [List.mem_cons, List.not_mem_nil, or_false] at hy; omega)
      have HK5 : Hid (Keep [R, g] W (W4.setCell ⟨g, 3 + x, none⟩ (.int .i64 nv))) := (HK4.out.mono (by simp)).trans ks (fun y hy _ => by simp only [List.mem_cons, List.not_mem_nil, or_false] at hy ⊢; omega)
      generalize W4.setCell ⟨g, 3 + x, none⟩ (.int .i64 nv) = W5 at *
      clear gc gf ks HB4 HI4 HK4 HBG c0
      have I5 := hI5.keepF (F := []) hf (Keep.refl _ W5).drew (fun y hy => by cases hy)
      have b5 := hb5.keep0 (Keep.refl [] W5).drew
      have HKV : Hid (Keep [R, g] W W5.drew) := HK5.out.then (Keep.refl [] W5).drew
      refine ai_start (fun w' => Blk w' w.heap.size 72 #[.pointer (some ⟨R, 0, none⟩)]) (by rfl) (by rfl) I5.box (fun hND hS hPan => ?_)
      have hSF : ∀ w', Blk w' w.heap.size 72 #[.pointer (some ⟨R, 0, none⟩)] → w'.cell? ⟨w.heap.size, 0, none⟩ = some (.pointer (some ⟨R, 0, none⟩)) ∧ True := fun w' h => ⟨by rw [h.cell]; rfl, trivial⟩
      generalize W5.drew = V5 at *
      clear hI5 hb5 HK5
      (refine ai_val (v := ?_) 0 rfl (open_round _) hND (by kernel_rfl) (by kernel_rfl) (by kernel_rfl) (by rfl) hPan ?_ hS ?_; rotate_left; (intro w' hSw; obtain ⟨f0, _f⟩ := hSF w' hSw; go_simp; try with_reducible rfl); simp only [Act.put, List.setIfInBounds_toArray, List.set_cons_zero, List.set_cons_succ])
      (refine ai_val (v := ?_) 1 rfl (open_round _) hND (by kernel_rfl) (by kernel_rfl) (by kernel_rfl) (by rfl) hPan ?_ hS ?_; rotate_left; (intro w' hSw; obtain ⟨f0, _f⟩ := hSF w' hSw; go_simp; try with_reducible rfl); simp only [Act.put, List.setIfInBounds_toArray, List.set_cons_zero, List.set_cons_succ])
      (refine ai_val (v := ?_) 2 rfl (open_round _) hND (by kernel_rfl) (by kernel_rfl) (by kernel_rfl) (by rfl) hPan ?_ hS ?_; rotate_left; (intro w' hSw; go_simp; try with_reducible rfl); simp only [Act.put, List.setIfInBounds_toArray, List.set_cons_zero, List.set_cons_succ])
      (refine ai_val (v := ?_) 3 rfl (open_round _) hND (by kernel_rfl) (by kernel_rfl) (by kernel_rfl) (by rfl) hPan ?_ hS ?_; rotate_left; (intro w' hSw; go_simp; try with_reducible rfl); simp only [Act.put, List.setIfInBounds_toArray, List.set_cons_zero, List.set_cons_succ])
      have rb : V5.cell? ⟨R, 2, none⟩ = some (.bool nb) := by rw [I5.rdr.cell]; rfl
      have rf := I5.rdr.frozen 2
      have gc : V5.cell? ⟨g, 3 + x, none⟩ = some (.int .i64 nv) := by
        rw [b5.cell]
        have := tsk_at r1.1 r2.1 r3.1 (lon.set x nv) x (by rw [List.length_set]; omega)
        rw [List.getElem_set_self] at this
        exact this
      refine ai_one 4 (by kernel_rfl) ?_
      refine oi_run (v := .bool nb) (w' := V5) 4 rfl (open_round _) hND (by rfl) (by go_simp) ?_
      refine ⟨hS, ?_⟩
      (simp only [Act.put, List.setIfInBounds_toArray, List.set_cons_zero, List.set_cons_succ])
      (refine ai_val (v := ?_) 5 rfl (open_round _) hND (by kernel_rfl) (by kernel_rfl) (by kernel_rfl) (by rfl) hPan ?_ hS ?_; rotate_left; (intro w' hSw; go_simp; try with_reducible rfl); simp only [Act.put, List.setIfInBounds_toArray, List.set_cons_zero, List.set_cons_succ])
      have HFIN : Hid (∀ bad, bad = (nb || nv == 0) → RdrI (w.heap.size + 2) R w.heap.size A c l X (lonM l (pre ++ [x]) (List.replicate 8 0) st4).2 (V5.setCell ⟨R, 2, none⟩ (.bool bad)) ∧ Blk (V5.setCell ⟨R, 2, none⟩ (.bool bad)) g 57 (tskCells ⟨r1.1, r2.1, r3.1, (lonM l (pre ++ [x]) (List.replicate 8 0) st4).1⟩).toArray ∧ Keep [R, g] W (V5.setCell ⟨R, 2, none⟩ (.bool bad)) ∧ Blk (V5.setCell ⟨R, 2, none⟩ (.bool bad)) w.heap.size 72 #[.pointer (some ⟨R, 0, none⟩)]) := fun bad hbad => by
        have ks := keep_set V5 R 2 (.bool bad)
        have hst := HST.out
        rw [hst]
        dsimp only
        have hr := I5.rdr.set_ 2 (.bool bad)
        have hr' : RdrAt (V5.setCell ⟨R, 2, none⟩ (.bool bad)) R A c l (np, nb || nv == 0) := by
          rw [← hbad]
          exact hr
        have hIn := I5.step hf ks (fun y hy => .inl (by simpa using hy)) hr' I5.le
        exact ⟨hIn, b5.keep ks (by simp; omega), HKV.out.trans ks (fun y hy _ => by simp only [List.mem_cons, List.not_mem_nil, or_false] at hy ⊢; exact .inl hy), hIn.box⟩
      cases nb with
      | true =>
        (refine ai_off 6 rfl (open_round _) hND (by kernel_rfl) (by kernel_rfl) (by kernel_rfl) (by rfl) hPan hS ?_; simp only [Act.put, List.setIfInBounds_toArray, List.set_cons_zero, List.set_cons_succ])
        (refine ai_off 7 rfl (open_round _) hND (by kernel_rfl) (by kernel_rfl) (by kernel_rfl) (by rfl) hPan hS ?_; simp only [Act.put, List.setIfInBounds_toArray, List.set_cons_zero, List.set_cons_succ])
        (refine ai_off 8 rfl (open_round _) hND (by kernel_rfl) (by kernel_rfl) (by kernel_rfl) (by rfl) hPan hS ?_; simp only [Act.put, List.setIfInBounds_toArray, List.set_cons_zero, List.set_cons_succ])
        (refine ai_off 9 rfl (open_round _) hND (by kernel_rfl) (by kernel_rfl) (by kernel_rfl) (by rfl) hPan hS ?_; simp only [Act.put, List.setIfInBounds_toArray, List.set_cons_zero, List.set_cons_succ])
        (refine ai_off 10 rfl (open_round _) hND (by kernel_rfl) (by kernel_rfl) (by kernel_rfl) (by rfl) hPan hS ?_; simp only [Act.put, List.setIfInBounds_toArray, List.set_cons_zero, List.set_cons_succ])
        (refine ai_val (v := ?_) 11 rfl (open_round _) hND (by kernel_rfl) (by kernel_rfl) (by kernel_rfl) (by rfl) hPan ?_ hS ?_; rotate_left; (intro w' hSw; go_simp; try with_reducible rfl); simp only [Act.put, List.setIfInBounds_toArray, List.set_cons_zero, List.set_cons_succ])
        (refine ai_val (v := ?_) 12 rfl (open_round _) hND (by kernel_rfl) (by kernel_rfl) (by kernel_rfl) (by rfl) hPan ?_ hS ?_; rotate_left; (intro w' hSw; go_simp; try with_reducible rfl); simp only [Act.put, List.setIfInBounds_toArray, List.set_cons_zero, List.set_cons_succ])
        (refine ai_val (v := ?_) 13 rfl (open_round _) hND (by kernel_rfl) (by kernel_rfl) (by kernel_rfl) (by rfl) hPan ?_ hS ?_; rotate_left; (intro w' hSw; go_simp; try with_reducible rfl); simp only [Act.put, List.setIfInBounds_toArray, List.set_cons_zero, List.set_cons_succ])
        obtain ⟨q1, q2, q3, q4⟩ := HFIN.out true (by simp)
        refine ai_one 14 (by kernel_rfl) ?_
        refine oi_store1 (v := .bool true) 14 rfl (open_round _) hND (by rfl) rfl rfl rfl (by kernel_rfl) rfl rfl rb rf ?_
        refine ⟨q4, ?_⟩
        (simp only [Act.put])
        refine ai_end (by kernel_rfl) ?_ _
        gi_wp2
        exact ⟨q3.from (fun y hy => .inl (by simp only [List.mem_cons, List.not_mem_nil, or_false] at hy; omega)), Same.keep q3 (fun y hy => by simp only [List.mem_cons, List.not_mem_nil, or_false] at hy ⊢; have := HZ.out; omega), q1, q2, HK.out.trans q3 (fun y hy _ => hy)⟩
      | false =>
        (refine ai_val (v := ?_) 6 rfl (open_round _) hND (by kernel_rfl) (by kernel_rfl) (by kernel_rfl) (by rfl) hPan ?_ hS ?_; rotate_left; (intro w' hSw; go_simp; try with_reducible rfl); simp only [Act.put, List.setIfInBounds_toArray, List.set_cons_zero, List.set_cons_succ])
        (refine ai_val (v := ?_) 7 rfl (open_round _) hND (by kernel_rfl) (by kernel_rfl) (by kernel_rfl) (by rfl) hPan ?_ hS ?_; rotate_left; (intro w' hSw; go_simp; try with_reducible rfl); simp only [Act.put, List.setIfInBounds_toArray, List.set_cons_zero, List.set_cons_succ])
        (refine ai_val (v := ?_) 8 rfl (open_round _) hND (by kernel_rfl) (by kernel_rfl) (by kernel_rfl) (by rfl) hPan ?_ hS ?_; rotate_left; (intro w' hSw; go_simp; try with_reducible rfl); simp only [Act.put, List.setIfInBounds_toArray, List.set_cons_zero, List.set_cons_succ])
        refine ai_one 9 (by kernel_rfl) ?_
        refine oi_run (v := .int .i64 nv) (w' := V5) 9 rfl (open_round _) hND (by rfl) (by go_simp) ?_
        refine ⟨hS, ?_⟩
        (simp only [Act.put, List.setIfInBounds_toArray, List.set_cons_zero, List.set_cons_succ])
        (refine ai_val (v := ?_) 10 rfl (open_round _) hND (by kernel_rfl) (by kernel_rfl) (by kernel_rfl) (by rfl) hPan ?_ hS ?_; rotate_left; (intro w' hSw; go_simp; try with_reducible rfl); simp only [Act.put, List.setIfInBounds_toArray, List.set_cons_zero, List.set_cons_succ])
        (refine ai_val (v := ?_) 11 rfl (open_round _) hND (by kernel_rfl) (by kernel_rfl) (by kernel_rfl) (by rfl) hPan ?_ hS ?_; rotate_left; (intro w' hSw; go_simp; try with_reducible rfl); simp only [Act.put, List.setIfInBounds_toArray, List.set_cons_zero, List.set_cons_succ])
        (refine ai_val (v := ?_) 12 rfl (open_round _) hND (by kernel_rfl) (by kernel_rfl) (by kernel_rfl) (by rfl) hPan ?_ hS ?_; rotate_left; (intro w' hSw; go_simp; try with_reducible rfl); simp only [Act.put, List.setIfInBounds_toArray, List.set_cons_zero, List.set_cons_succ])
        (refine ai_val (v := ?_) 13 rfl (open_round _) hND (by kernel_rfl) (by kernel_rfl) (by kernel_rfl) (by rfl) hPan ?_ hS ?_; rotate_left; (intro w' hSw; go_simp; try with_reducible rfl); simp only [Act.put, List.setIfInBounds_toArray, List.set_cons_zero, List.set_cons_succ])
        obtain ⟨q1, q2, q3, q4⟩ := HFIN.out (nv == 0) (by simp)
        refine ai_one 14 (by kernel_rfl) ?_
        refine oi_store1 (v := .bool (nv == 0)) 14 rfl (open_round _) hND (by rfl) rfl rfl rfl (by kernel_rfl) rfl rfl rb rf ?_
        refine ⟨q4, ?_⟩
        (simp only [Act.put])
        refine ai_end (by kernel_rfl) ?_ _
        gi_wp2
        exact ⟨q3.from (fun y hy => .inl (by simp only [List.mem_cons, List.not_mem_nil, or_false] at hy; omega)), Same.keep q3 (fun y hy => by simp only [List.mem_cons, List.not_mem_nil, or_false] at hy ⊢; have := HZ.out; omega), q1, q2, HK.out.trans q3 (fun y hy _ => hy)⟩
    case done =>
      rintro D Wd hD ⟨hb, hbg, hK⟩ hD2
      have hbr := (HX.out Wd hb.ext).1
      have hkw := (HX.out Wd hb.ext).2.2
      have hcs := hbg.cellsAt
      have HLT : Hid ((tskCells ⟨r1.1, r2.1, r3.1, (lonM l (bitsL s4) (List.replicate 8 0) st4).1⟩).length = 11) := tskCells_len (by rw [lonM_len]; rfl)
      have HRT : Hid (taskM l st = _) := HTM
      generalize (lonM l (bitsL s4) (List.replicate 8 0) st4) = lm at *
      obtain ⟨lon, sf⟩ := lm
      dsimp only at *
      generalize (⟨r1.1, r2.1, r3.1, lon⟩ : Tsk) = tt at *
      gi_wp2_with (first
        | (refine wpListIn_agg rfl 57 (.tmp 3) rfl rfl (cs := tskCells tt) (by rw [HLT.out]; exact agg_task) hcs ?_)
        | (refine stopIn_store 57 (.tmp 2) (.tmp 36) rfl ?_))
      constructor
      refine wpListIn_store_all rfl 57 (.tmp 2) (.tmp 36) rfl rfl rfl (by rw [HLT.out]; kernel_rfl) hbr (iv_one _) (by rw [HLT.out]; rfl) ?_
      intro w5 d5 k5
      have hD3 := k5.block D (Array.getElem?_eq_some_iff.1 hD2).1 (by simp; omega) |>.trans hD2
      gi_wp2
      refine ⟨by simp, .inl ⟨_, _, rfl, run_takeDeferred hD3, ?_⟩⟩
      have m1 := blk_putObj (.deferred none) d5 hD3 rfl
      rw [HRT.out]
      have kp := keep_putObj w5 D (.deferred none)
      refine ⟨_, results_blk rfl _ rfl m1 (by rw [HLT.out]; exact agg_task), rfl, (hb.rdr.keep k5 (by simp; omega)).keep kp (by simp; omega), (hkw.trans k5 (fun y hy hlt => by simp at hy; omega)).trans kp (fun y hy hlt => by simp at hy; omega)⟩
    case stop =>
      rintro D c' pre Wd hD hpre hf0 hD2
      exact hf0.elim
end Go.Proofs.YtfgjcjpemlgnmaaDoor
