/- Two rows of steps are the same: the document's answer. No condition. -/
import Derived.Test.YtoepkhkaifgddaaStSame
namespace Go.Proofs.Ytoepkhkaifgddaa
open Go.RowKit

/-- Two new steps, made in whatever order. -/
def TwoSteps (wo : World) (l l' : List Value) (p q : Value) (wx : World) : Prop :=
  ∃ g g', p = .pointer (some ⟨g, 0, none⟩) ∧ q = .pointer (some ⟨g', 0, none⟩) ∧ Blk wx g 45 l.toArray ∧ Blk wx g' 45 l'.toArray ∧ Keep [] wo wx

set_option maxRecDepth 100000 in
set_option maxHeartbeats 4000000 in
theorem rstsame_any (A A' : Option Addr) (c c' : Nat) (ms ms' : List (Stp × StpV)) (w : World) (h : StepsAt w A ms) (h' : StepsAt w A' ms') :
    Calls Try.prog 16 #[.slice A ms.length c, .slice A' ms'.length c'] w fun e w' => e = .returned (.bool (decide (stps ms = stps ms'))) ∧ Keep [] w w' := by
  have l1 := h.len
  have l2 := h'.len
  have lq := Lib.hid h.each
  have lq' := Lib.hid h'.each
  have hs := h.step
  have hs' := h'.step
  unfold maxLen at l1 l2
  have hN0 := Lib.hid (fun (e : ms.length ≠ ms'.length) => (decide_eq_false (fun q => e (by simpa using congrArg List.length q)) : decide (stps ms = stps ms') = false))
  have hN := Lib.hid (fun (k : Nat) (hk : k < ms.length) (hk' : k < ms'.length) (e : ms[k].1 ≠ ms'[k].1) => (decide_eq_false (fun q => st_ne (l := stps ms) (m := stps ms') (k := k) (by simpa using hk) (by simpa using hk') (by simpa using e) q) : decide (stps ms = stps ms') = false))
  have hT := Lib.hid (fun (e : stps ms = stps ms') => (decide_eq_true e : decide (stps ms = stps ms') = true))
  clear h h'
  generalize decide (stps ms = stps ms') = r at *
  by_cases g1 : ms.length = ms'.length
  · have q1 : ((ms.length : Int) != (ms'.length : Int)) = false := by simp [g1]
    have HL := Lib.hid g1
    clear g1
    go_enter Try.func16, Try.ntmps16
    go_wp2
    clear q1
    go_loopg [5] ms.length (fun gk i wr => ∃ k : Nat, k + gk = ms.length ∧ i = .int .i64 k ∧ (stps ms).take k = (stps ms').take k ∧ Keep [] w wr)
    case atStart => exact ⟨0, by omega, rfl, rfl, Keep.refl _ _⟩
    case round =>
      obtain ⟨k, hk, rfl, heq, hkeep⟩ := hrel
      have HK := Lib.hid hk
      have hk9 : k ≤ ms.length := by omega
      clear hk
      by_cases hlk : k < ms.length
      · have hlk' : k < ms'.length := by have := HL.out; omega
        obtain ⟨b, o, hA, hb, hc⟩ := hs (by omega)
        obtain ⟨b', o', hA', hb', hc'⟩ := hs' (by omega)
        have hst : Hid (ms[k].1 = ms'[k].1 → (stps ms).take (k + 1) = (stps ms').take (k + 1)) := fun e => st_take (by simpa using hlk) (by simpa using hlk') heq (by simpa using e)
        have hno : Hid (ms[k].1 ≠ ms'[k].1 → r = false) := hN.out k hlk hlk'
        have hm := lq.out _ (List.getElem_mem hlk)
        have hm' := lq'.out _ (List.getElem_mem hlk')
        have ci := hc k hlk
        have ci' := hc' k hlk'
        have k0 : (0 : Int) ≤ (k : Int) := by omega
        have k1 : (k : Int) < ms.length := by omega
        have k2 : (k : Int) < ms'.length := by omega
        clear hc hc' heq hs hs' lq lq' hN hN0 hT
        generalize ms[k] = m at *
        generalize ms'[k] = m' at *
        obtain ⟨s, v⟩ := m
        obtain ⟨t, v'⟩ := m'
        simp only at hst hno hm hm'
        have hG : Hid (∀ w', Keep [] wr w' → w'.cell? ⟨b, o + k * 5, none⟩ = some (.int .i64 s.kind) ∧ w'.cell? ⟨b, o + k * 5 + 1, none⟩ = some (.int .i64 s.a) ∧ w'.cell? ⟨b, o + k * 5 + 2, none⟩ = some (.int .i64 s.n) ∧ w'.cell? ⟨b, o + k * 5 + 3, none⟩ = some (.slice v.sa s.secs.length v.sc) ∧ w'.cell? ⟨b, o + k * 5 + 4, none⟩ = some (.slice v.wa s.words.length v.wc) ∧ w'.cell? ⟨b', o' + k * 5, none⟩ = some (.int .i64 t.kind) ∧ w'.cell? ⟨b', o' + k * 5 + 1, none⟩ = some (.int .i64 t.a) ∧ w'.cell? ⟨b', o' + k * 5 + 2, none⟩ = some (.int .i64 t.n) ∧ w'.cell? ⟨b', o' + k * 5 + 3, none⟩ = some (.slice v'.sa t.secs.length v'.sc) ∧ w'.cell? ⟨b', o' + k * 5 + 4, none⟩ = some (.slice v'.wa t.words.length v'.wc)) := fun w' hw =>
          ⟨((hkeep.then hw).cell (p := ⟨b, o + k * 5, none⟩) hb (by simp)).trans (ci 0 _ rfl), ((hkeep.then hw).cell (p := ⟨b, o + k * 5 + 1, none⟩) hb (by simp)).trans (ci 1 _ rfl), ((hkeep.then hw).cell (p := ⟨b, o + k * 5 + 2, none⟩) hb (by simp)).trans (ci 2 _ rfl), ((hkeep.then hw).cell (p := ⟨b, o + k * 5 + 3, none⟩) hb (by simp)).trans (ci 3 _ rfl), ((hkeep.then hw).cell (p := ⟨b, o + k * 5 + 4, none⟩) hb (by simp)).trans (ci 4 _ rfl), ((hkeep.then hw).cell (p := ⟨b', o' + k * 5, none⟩) hb' (by simp)).trans (ci' 0 _ rfl), ((hkeep.then hw).cell (p := ⟨b', o' + k * 5 + 1, none⟩) hb' (by simp)).trans (ci' 1 _ rfl), ((hkeep.then hw).cell (p := ⟨b', o' + k * 5 + 2, none⟩) hb' (by simp)).trans (ci' 2 _ rfl), ((hkeep.then hw).cell (p := ⟨b', o' + k * 5 + 3, none⟩) hb' (by simp)).trans (ci' 3 _ rfl), ((hkeep.then hw).cell (p := ⟨b', o' + k * 5 + 4, none⟩) hb' (by simp)).trans (ci' 4 _ rfl)⟩
        have hif := @stp_iff s t
        have HIF := Lib.hid hif
        have hls := hm.ls
        have hlw := hm.lw
        have hls' := hm'.ls
        have hlw' := hm'.lw
        unfold maxLen at hls hlw hls' hlw'
        clear ci ci' hif
        have hcase : ((s.kind != t.kind) = true) ∨ ((s.kind != t.kind) = false ∧ (s.a != t.a) = true) ∨ ((s.kind != t.kind) = false ∧ (s.a != t.a) = false ∧ (s.n != t.n) = true) ∨ ((s.kind != t.kind) = false ∧ (s.a != t.a) = false ∧ (s.n != t.n) = false ∧ ((s.secs.length : Int) != (t.secs.length : Int)) = true) ∨ ((s.kind != t.kind) = false ∧ (s.a != t.a) = false ∧ (s.n != t.n) = false ∧ ((s.secs.length : Int) != (t.secs.length : Int)) = false ∧ ((s.words.length : Int) != (t.words.length : Int)) = true) ∨ ((s.kind != t.kind) = false ∧ (s.a != t.a) = false ∧ (s.n != t.n) = false ∧ ((s.secs.length : Int) != (t.secs.length : Int)) = false ∧ ((s.words.length : Int) != (t.words.length : Int)) = false) := by
          cases (s.kind != t.kind) <;> cases (s.a != t.a) <;> cases (s.n != t.n) <;> cases ((s.secs.length : Int) != (t.secs.length : Int)) <;> cases ((s.words.length : Int) != (t.words.length : Int)) <;> simp
        have HA := Lib.hid hA
        have HA' := Lib.hid hA'
        rw [hA, hA']
        go_upto_region 6 with fail
        obtain ⟨wo, hwo⟩ : ∃ wo : World, wo = wr := ⟨_, rfl⟩
        subst hwo
        go_cut [6, 7] (fun p6 p7 wx => TwoSteps wo (stpCells (s, v)) (stpCells (t, v')) p6 p7 wx)
        case first =>
          refine wp_region_held_drew (S := Keep [] wo) (by kernel_rfl) (Keep.refl _ _).drew (fun hS => ?_)
          (refine ah_take (v := ?_) 0 rfl (by kernel_rfl) (by kernel_rfl) (by kernel_rfl) (fun _ _ _ h => h) ?_ hS ?_; rotate_left; (intro w' hSw; obtain ⟨f1,f2,f3,f4,f5,f6,f7,f8,f9,f10⟩ := hG.out w' hSw; go_simp; with_reducible rfl); simp only [Act.put, List.setIfInBounds_toArray, List.set_cons_zero, List.set_cons_succ])
          (refine ah_take (v := ?_) 1 rfl (by kernel_rfl) (by kernel_rfl) (by kernel_rfl) (fun _ _ _ h => h) ?_ hS ?_; rotate_left; (intro w' hSw; obtain ⟨f1,f2,f3,f4,f5,f6,f7,f8,f9,f10⟩ := hG.out w' hSw; go_simp; with_reducible rfl); simp only [Act.put, List.setIfInBounds_toArray, List.set_cons_zero, List.set_cons_succ])
          (refine ah_take (v := ?_) 2 rfl (by kernel_rfl) (by kernel_rfl) (by kernel_rfl) (fun _ _ _ h => h) ?_ hS ?_; rotate_left; (intro w' hSw; obtain ⟨f1,f2,f3,f4,f5,f6,f7,f8,f9,f10⟩ := hG.out w' hSw; go_simp; with_reducible rfl); simp only [Act.put, List.setIfInBounds_toArray, List.set_cons_zero, List.set_cons_succ])
          (refine ah_take (v := ?_) 3 rfl (by kernel_rfl) (by kernel_rfl) (by kernel_rfl) (fun _ _ _ h => h) ?_ hS ?_; rotate_left; (intro w' hSw; obtain ⟨f1,f2,f3,f4,f5,f6,f7,f8,f9,f10⟩ := hG.out w' hSw; go_simp; with_reducible rfl); simp only [Act.put, List.setIfInBounds_toArray, List.set_cons_zero, List.set_cons_succ])
          (refine ah_take (v := ?_) 4 rfl (by kernel_rfl) (by kernel_rfl) (by kernel_rfl) (fun _ _ _ h => h) ?_ hS ?_; rotate_left; (intro w' hSw; obtain ⟨f1,f2,f3,f4,f5,f6,f7,f8,f9,f10⟩ := hG.out w' hSw; go_simp; with_reducible rfl); simp only [Act.put, List.setIfInBounds_toArray, List.set_cons_zero, List.set_cons_succ])
          (refine ah_take (v := ?_) 5 rfl (by kernel_rfl) (by kernel_rfl) (by kernel_rfl) (fun _ _ _ h => h) ?_ hS ?_; rotate_left; (intro w' hSw; obtain ⟨f1,f2,f3,f4,f5,f6,f7,f8,f9,f10⟩ := hG.out w' hSw; go_simp; with_reducible rfl); simp only [Act.put, List.setIfInBounds_toArray, List.set_cons_zero, List.set_cons_succ])
          (refine ah_take (v := ?_) 6 rfl (by kernel_rfl) (by kernel_rfl) (by kernel_rfl) (fun _ _ _ h => h) ?_ hS ?_; rotate_left; (intro w' hSw; obtain ⟨f1,f2,f3,f4,f5,f6,f7,f8,f9,f10⟩ := hG.out w' hSw; go_simp; with_reducible rfl); simp only [Act.put, List.setIfInBounds_toArray, List.set_cons_zero, List.set_cons_succ])
          (refine ah_take (v := ?_) 7 rfl (by kernel_rfl) (by kernel_rfl) (by kernel_rfl) (fun _ _ _ h => h) ?_ hS ?_; rotate_left; (intro w' hSw; obtain ⟨f1,f2,f3,f4,f5,f6,f7,f8,f9,f10⟩ := hG.out w' hSw; go_simp; with_reducible rfl); simp only [Act.put, List.setIfInBounds_toArray, List.set_cons_zero, List.set_cons_succ])
          have hz1 : ∀ (m : Stp × StpV), ∀ y, y ∈ stpCells m → y.oneCell' = true := by intro m y hy; simp [stpCells] at hy; rcases hy with rfl | rfl | rfl | rfl | rfl <;> rfl
          have kA := (Keep.refl [] wo).drew.alloc (.cells #[.int .i64 0, .int .i64 0, .int .i64 0, .slice none 0 0, .slice none 0 0] 45)
          have kB := kA.alloc (.cells #[.int .i64 0, .int .i64 0, .int .i64 0, .slice none 0 0, .slice none 0 0] 45)
          have b7 := (Blk.new wo.drew 45 #[.int .i64 0, .int .i64 0, .int .i64 0, .slice none 0 0, .slice none 0 0]).alloc (.cells #[.int .i64 0, .int .i64 0, .int .i64 0, .slice none 0 0, .slice none 0 0] 45)
          have b8 := stBlk1 wo.drew (.cells #[.int .i64 0, .int .i64 0, .int .i64 0, .slice none 0 0, .slice none 0 0] 45) 45 #[.int .i64 0, .int .i64 0, .int .i64 0, .slice none 0 0, .slice none 0 0]
          have hne : wo.drew.heap.size ≠ wo.drew.heap.size + 1 := by omega
          refine ah_two 8 9 (by kernel_rfl) ?_ ?_
          · refine oph_run (v := .pointer (some ⟨wo.heap.size, 0, none⟩)) (w' := wo.drew.alloc (.cells #[.int .i64 0, .int .i64 0, .int .i64 0, .slice none 0 0, .slice none 0 0] 45)) 8 rfl (by go_simp) kA ?_
            (simp only [Act.put, List.setIfInBounds_toArray, List.set_cons_zero, List.set_cons_succ])
            refine ah_one 9 (by kernel_rfl) ?_
            refine oph_run (v := .pointer (some ⟨wo.heap.size + 1, 0, none⟩)) (w' := (wo.drew.alloc (.cells #[.int .i64 0, .int .i64 0, .int .i64 0, .slice none 0 0, .slice none 0 0] 45)).alloc (.cells #[.int .i64 0, .int .i64 0, .int .i64 0, .slice none 0 0, .slice none 0 0] 45)) 9 rfl (by go_simp) kB ?_
            (simp only [Act.put, List.setIfInBounds_toArray, List.set_cons_zero, List.set_cons_succ])
            refine ah_store (vs := stpCells (s, v)) 10 rfl (by kernel_rfl) rfl rfl (by kernel_rfl) b7 (hz1 _) rfl ?_
            intro w5 d7 k5
            have kC := kB.trans k5 (fun y hy h => by simp at hy h; omega)
            refine ⟨kC, ?_⟩
            (simp only [Act.put])
            refine ah_store (vs := stpCells (t, v')) 11 rfl (by kernel_rfl) rfl rfl (by kernel_rfl) (b8.keep k5 (by simp)) (hz1 _) rfl ?_
            intro w6 d8 k6
            have kD := kC.trans k6 (fun y hy h => by simp at hy h; omega)
            refine ⟨kD, wpAnyH_done (by kernel_rfl) ?_ _⟩
            have hfin : TwoSteps wo (stpCells (s, v)) (stpCells (t, v')) (.pointer (some ⟨wo.heap.size, 0, none⟩)) (.pointer (some ⟨wo.heap.size + 1, 0, none⟩)) w6 := ⟨_, _, rfl, rfl, d7.keep k6 (by simp), d8, kD⟩
            have HFIN := Lib.hid hfin
            clear hfin d7 d8 k5 k6 kC kD kA kB b7 b8
            (simp only [Act.put])
            go_wp2_with fail
            go_meet
            exact HFIN.out
          · refine oph_run (v := .pointer (some ⟨wo.heap.size, 0, none⟩)) (w' := wo.drew.alloc (.cells #[.int .i64 0, .int .i64 0, .int .i64 0, .slice none 0 0, .slice none 0 0] 45)) 9 rfl (by go_simp) kA ?_
            (simp only [Act.put, List.setIfInBounds_toArray, List.set_cons_zero, List.set_cons_succ])
            refine ah_one 8 (by kernel_rfl) ?_
            refine oph_run (v := .pointer (some ⟨wo.heap.size + 1, 0, none⟩)) (w' := (wo.drew.alloc (.cells #[.int .i64 0, .int .i64 0, .int .i64 0, .slice none 0 0, .slice none 0 0] 45)).alloc (.cells #[.int .i64 0, .int .i64 0, .int .i64 0, .slice none 0 0, .slice none 0 0] 45)) 8 rfl (by go_simp) kB ?_
            (simp only [Act.put, List.setIfInBounds_toArray, List.set_cons_zero, List.set_cons_succ])
            refine ah_store (vs := stpCells (s, v)) 10 rfl (by kernel_rfl) rfl rfl (by kernel_rfl) b8 (hz1 _) rfl ?_
            intro w5 d7 k5
            have kC := kB.trans k5 (fun y hy h => by simp at hy h; omega)
            refine ⟨kC, ?_⟩
            (simp only [Act.put])
            refine ah_store (vs := stpCells (t, v')) 11 rfl (by kernel_rfl) rfl rfl (by kernel_rfl) (b7.keep k5 (by simp)) (hz1 _) rfl ?_
            intro w6 d8 k6
            have kD := kC.trans k6 (fun y hy h => by simp at hy h; omega)
            refine ⟨kD, wpAnyH_done (by kernel_rfl) ?_ _⟩
            have hfin : TwoSteps wo (stpCells (s, v)) (stpCells (t, v')) (.pointer (some ⟨wo.heap.size + 1, 0, none⟩)) (.pointer (some ⟨wo.heap.size, 0, none⟩)) w6 := ⟨_, _, rfl, rfl, d7.keep k6 (by simp), d8, kD⟩
            have HFIN := Lib.hid hfin
            clear hfin d7 d8 k5 k6 kC kD kA kB b7 b8
            (simp only [Act.put])
            go_wp2_with fail
            go_meet
            exact HFIN.out
        case rest =>
          obtain ⟨g7, g8, rfl, rfl, b7, b8, hkx⟩ := hcut
          have KB := Lib.hid (hkeep.then hkx)
          have hcell : ∀ {g t : Nat} {a b c d e : Value}, Blk wc g t (#[a, b, c, d, e] : Array Value) → wc.cell? ⟨g, 0, none⟩ = some a ∧ wc.cell? ⟨g, 1, none⟩ = some b ∧ wc.cell? ⟨g, 2, none⟩ = some c ∧ wc.cell? ⟨g, 3, none⟩ = some d ∧ wc.cell? ⟨g, 4, none⟩ = some e := fun hh => ⟨by rw [Blk.cell hh]; rfl, by rw [Blk.cell hh]; rfl, by rw [Blk.cell hh]; rfl, by rw [Blk.cell hh]; rfl, by rw [Blk.cell hh]; rfl⟩
          obtain ⟨c0, c1, c2, c3, c4⟩ := hcell b7
          obtain ⟨d0, d1, d2, d3, d4⟩ := hcell b8
          simp only at c0 c1 c2 c3 c4 d0 d1 d2 d3 d4
          clear hcell hG
          rcases hcase with g0 | ⟨g0, g1⟩ | ⟨g0, g1, g2⟩ | ⟨g0, g1, g2, g3⟩ | ⟨g0, g1, g2, g3, g4⟩ | ⟨g0, g1, g2, g3, g4⟩
          · have HR := Lib.hid (hno.out (fun e => by rw [e] at g0; simp at g0))
            go_wp2
            go_ret
            exact ⟨by rw [HR.out]; rfl, KB.out⟩
          · have HR := Lib.hid (hno.out (fun e => by rw [e] at g1; simp at g1))
            go_wp2
            go_ret
            exact ⟨by rw [HR.out]; rfl, KB.out⟩
          · have HR := Lib.hid (hno.out (fun e => by rw [e] at g2; simp at g2))
            go_wp2
            go_ret
            exact ⟨by rw [HR.out]; rfl, KB.out⟩
          · have HR := Lib.hid (hno.out (fun e => by rw [e] at g3; simp at g3))
            have n3 : (s.secs.length != t.secs.length) = true := by simp at g3 ⊢; omega
            go_wp2
            go_ret
            exact ⟨by rw [HR.out]; rfl, KB.out⟩
          · have HR := Lib.hid (hno.out (fun e => by rw [e] at g4; simp at g4))
            have n3 : (s.secs.length != t.secs.length) = false := by simp at g3 ⊢; omega
            have n4 : (s.words.length != t.words.length) = true := by simp at g4 ⊢; omega
            go_wp2
            go_ret
            exact ⟨by rw [HR.out]; rfl, KB.out⟩
          · have n3 : (s.secs.length != t.secs.length) = false := by simp at g3 ⊢; omega
            have n4 : (s.words.length != t.words.length) = false := by simp at g4 ⊢; omega
            have HE0 : Hid (s.kind = t.kind) := show _ = _ by simpa using g0
            have HE1 : Hid (s.a = t.a) := show _ = _ by simpa using g1
            have HE2 : Hid (s.n = t.n) := show _ = _ by simpa using g2
            have HE3 : Hid (s.secs.length = t.secs.length) := show _ = _ by simpa using n3
            have HE4 : Hid (s.words.length = t.words.length) := show _ = _ by simpa using n4
            go_wp2
            have HF : Hid (∀ w', Keep [] wc w' → w'.cell? ⟨g7, 3, none⟩ = some (.slice v.sa s.secs.length v.sc) ∧ w'.cell? ⟨g8, 3, none⟩ = some (.slice v'.sa t.secs.length v'.sc) ∧
                w'.cell? ⟨g7, 4, none⟩ = some (.slice v.wa s.words.length v.wc) ∧ w'.cell? ⟨g8, 4, none⟩ = some (.slice v'.wa t.words.length v'.wc)) := fun w' hw =>
              ⟨(by rw [(Blk.keep0 b7 hw).cell]; rfl), (by rw [(Blk.keep0 b8 hw).cell]; rfl), (by rw [(Blk.keep0 b7 hw).cell]; rfl), (by rw [(Blk.keep0 b8 hw).cell]; rfl)⟩
            have hsec := (hm.keep0 KB.out).sec
            have hsec' := (hm'.keep0 KB.out).sec
            have hword := (hm.keep0 KB.out).word
            have hword' := (hm'.keep0 KB.out).word
            clear b7 b8 hm hm' hA hA' hkeep g0 g1 g2 g3 g4 n3 n4 c0 c1 c2 c3 c4 d0 d1 d2 d3 d4
            obtain ⟨f1, f2, f3, f4⟩ := HF.out wc (Keep.refl _ _)
            obtain ⟨og, hog⟩ : ∃ og, og = gk := ⟨_, rfl⟩
            subst hog
            go_wp2
            go_loopg [8] s.secs.length (fun gj i wx => ∃ j : Nat, j + gj = s.secs.length ∧ i = .int .i64 j ∧ s.secs.take j = t.secs.take j ∧ Keep [] wc wx)
            case atStart => exact ⟨0, by omega, rfl, rfl, Keep.refl _ _⟩
            case round =>
              clear f1 f2 f3 f4
              obtain ⟨j, hj, rfl, hqe, hkx⟩ := hrel
              have HJ := Lib.hid hj
              have hj9 : j ≤ s.secs.length := by omega
              clear hj
              by_cases hlj : j < s.secs.length
              · have hlj' : j < t.secs.length := by have := HE3.out; omega
                obtain ⟨bq, oq, hQA, hbq, hqs⟩ := hsec (by omega)
                obtain ⟨bq', oq', hQA', hbq', hqs'⟩ := hsec' (by omega)
                have hst2 : Hid (s.secs[j] = t.secs[j] → s.secs.take (j + 1) = t.secs.take (j + 1)) := st_take hlj hlj' hqe
                have hno2 : Hid (s.secs[j] ≠ t.secs[j] → r = false) := fun hne => hno.out (fun e => (st_ne hlj hlj' hne) (HIF.out.1 e).2.2.2.1)
                have hc1 : Hid (∀ w', Keep [] wr w' → CellsAt w' bq (oq + j * 3) (sctCells s.secs[j])) := fun w' hw => (hqs j hlj).keep0 (hkx.then hw) hbq
                have hc2 : Hid (∀ w', Keep [] wr w' → CellsAt w' bq' (oq' + j * 3) (sctCells t.secs[j])) := fun w' hw => (hqs' j hlj').keep0 (hkx.then hw) hbq'
                have hF : ∀ w', Keep [] wr w' → w'.cell? ⟨g7, 3, none⟩ = some (.slice (some ⟨bq, oq, none⟩) s.secs.length v.sc) ∧ w'.cell? ⟨g8, 3, none⟩ = some (.slice (some ⟨bq', oq', none⟩) t.secs.length v'.sc) := fun w' hw => by
                  obtain ⟨f1, f2, _, _⟩ := HF.out w' (hkx.then hw)
                  rw [hQA] at f1
                  rw [hQA'] at f2
                  exact ⟨f1, f2⟩
                have hneq := fun W => section_neq (a := s.secs[j]) (b := t.secs[j]) W
                have hgd := fun x y W => section_guard x y (sctCells s.secs[j]).toArray (sctCells t.secs[j]).toArray W
                have j0 : (0 : Int) ≤ (j : Int) := by omega
                have j1 : (j : Int) < s.secs.length := by omega
                have j2 : (j : Int) < t.secs.length := by omega
                have HKX := Lib.hid hkx
                clear hqs hqs' hqe hsec hsec' hword hword' hkx
                obtain ⟨e1, e2⟩ := hF wr (Keep.refl _ _)
                generalize s.secs[j] = x at *
                generalize t.secs[j] = y at *
                by_cases hab : x = y
                · have HS := Lib.hid (hst2.out hab)
                  have hd : (!decide (x = y)) = false := by simp [hab]
                  rw [hd] at hneq
                  clear hab hd
                  generalize hxc : sctCells x = xc at *
                  generalize hyc : sctCells y = yc at *
                  have HXL : Hid (xc.length = 3) := show _ = _ by rw [← hxc]; rfl
                  have HYL : Hid (yc.length = 3) := show _ = _ by rw [← hyc]; rfl
                  clear hxc hyc
                  go_wp2
                  refine wp_region_flow (Keep [] wr) rfl (by kernel_rfl) (Keep.refl _ _).drew ?_
                  repeat (refine fl_val (v := ?_) (by rfl) ?_ ?_; rotate_left; (intro w' hS; obtain ⟨f1,f2⟩ := hF w' hS; go_simp; with_reducible rfl); simp only [Act.put, List.setIfInBounds_toArray, List.set_cons_zero, List.set_cons_succ])
                  refine fl_agg 85 (.tmp 76) xc rfl rfl rfl (by rw [HXL.out]; exact agg_section) (fun w' hw => hc1.out w' hw) ?_
                  simp only [Act.put, List.setIfInBounds_toArray, List.set_cons_zero, List.set_cons_succ]
                  repeat (refine fl_val (v := ?_) (by rfl) ?_ ?_; rotate_left; (intro w' hS; obtain ⟨f1,f2⟩ := hF w' hS; go_simp; with_reducible rfl); simp only [Act.put, List.setIfInBounds_toArray, List.set_cons_zero, List.set_cons_succ])
                  refine fl_agg 85 (.tmp 81) yc rfl rfl rfl (by rw [HYL.out]; exact agg_section) (fun w' hw => hc2.out w' hw) ?_
                  simp only [Act.put, List.setIfInBounds_toArray, List.set_cons_zero, List.set_cons_succ]
                  repeat (refine fl_val (v := ?_) (by rfl) ?_ ?_; rotate_left; (intro w' hS; obtain ⟨f1,f2⟩ := hF w' hS; go_simp; with_reducible rfl); simp only [Act.put, List.setIfInBounds_toArray, List.set_cons_zero, List.set_cons_succ])
                  refine fl_nil ?_
                  intro w4 hS
                  have hrel4 : Hid (Keep [] wc w4) := HKX.out.then hS
                  go_wp2
                  go_roundg (gk - 1)
                  case rel => exact ⟨j + 1, by have := HJ.out; omega, by go_num, HS.out, hrel4.out⟩
                  case measure => have := HJ.out; omega
                · have HR := Lib.hid (hno2.out hab)
                  have hd : (!decide (x = y)) = true := by simp [hab]
                  rw [hd] at hneq
                  clear hab hd
                  generalize hxc : sctCells x = xc at *
                  generalize hyc : sctCells y = yc at *
                  have HXL : Hid (xc.length = 3) := show _ = _ by rw [← hxc]; rfl
                  have HYL : Hid (yc.length = 3) := show _ = _ by rw [← hyc]; rfl
                  clear hxc hyc
                  go_wp2
                  refine wp_region_flow (Keep [] wr) rfl (by kernel_rfl) (Keep.refl _ _).drew ?_
                  repeat (refine fl_val (v := ?_) (by rfl) ?_ ?_; rotate_left; (intro w' hS; obtain ⟨f1,f2⟩ := hF w' hS; go_simp; with_reducible rfl); simp only [Act.put, List.setIfInBounds_toArray, List.set_cons_zero, List.set_cons_succ])
                  refine fl_agg 85 (.tmp 76) xc rfl rfl rfl (by rw [HXL.out]; exact agg_section) (fun w' hw => hc1.out w' hw) ?_
                  simp only [Act.put, List.setIfInBounds_toArray, List.set_cons_zero, List.set_cons_succ]
                  repeat (refine fl_val (v := ?_) (by rfl) ?_ ?_; rotate_left; (intro w' hS; obtain ⟨f1,f2⟩ := hF w' hS; go_simp; with_reducible rfl); simp only [Act.put, List.setIfInBounds_toArray, List.set_cons_zero, List.set_cons_succ])
                  refine fl_agg 85 (.tmp 81) yc rfl rfl rfl (by rw [HYL.out]; exact agg_section) (fun w' hw => hc2.out w' hw) ?_
                  simp only [Act.put, List.setIfInBounds_toArray, List.set_cons_zero, List.set_cons_succ]
                  repeat (refine fl_val (v := ?_) (by rfl) ?_ ?_; rotate_left; (intro w' hS; obtain ⟨f1,f2⟩ := hF w' hS; go_simp; with_reducible rfl); simp only [Act.put, List.setIfInBounds_toArray, List.set_cons_zero, List.set_cons_succ])
                  refine fl_nil ?_
                  intro w4 hS
                  have hrel4 : Hid (Keep [] w w4) := KB.out.then (HKX.out.then hS)
                  go_wp2
                  go_ret
                  exact ⟨by rw [HR.out]; rfl, hrel4.out⟩
              · have HSE := Lib.hid (st_all (by omega) (by have := HE3.out; omega) hqe)
                obtain ⟨f1, f2, f3, f4⟩ := HF.out wr hkx
                have HKX := Lib.hid hkx
                clear hqe hsec hsec' hkx
                obtain ⟨ws, hws⟩ : ∃ ws, ws = wr := ⟨_, rfl⟩
                subst hws
                go_wp2
                go_loopg [9] s.words.length (fun gj i wx => ∃ j : Nat, j + gj = s.words.length ∧ i = .int .i64 j ∧ s.words.take j = t.words.take j ∧ Keep [] wc wx)
                case atStart => exact ⟨0, by omega, rfl, rfl, HKX.out⟩
                case round =>
                  clear f1 f2 f3 f4
                  obtain ⟨j, hj, rfl, hqe, hkx⟩ := hrel
                  have HJ := Lib.hid hj
                  have hj8 : j ≤ s.words.length := by omega
                  clear hj
                  by_cases hlj : j < s.words.length
                  · have hlj' : j < t.words.length := by have := HE4.out; omega
                    obtain ⟨bq, oq, hQA, hbq, hqs⟩ := hword (by omega)
                    obtain ⟨bq', oq', hQA', hbq', hqs'⟩ := hword' (by omega)
                    have hst2 : Hid (s.words[j] = t.words[j] → s.words.take (j + 1) = t.words.take (j + 1)) := st_take hlj hlj' hqe
                    have hno2 : Hid (s.words[j] ≠ t.words[j] → r = false) := fun hne => hno.out (fun e => (st_ne hlj hlj' hne) (HIF.out.1 e).2.2.2.2)
                    have hF : ∀ w', Keep [] wr w' → w'.cell? ⟨g7, 4, none⟩ = some (.slice (some ⟨bq, oq, none⟩) s.words.length v.wc) ∧ w'.cell? ⟨g8, 4, none⟩ = some (.slice (some ⟨bq', oq', none⟩) t.words.length v'.wc) ∧
                        w'.cell? ⟨bq, oq + j, none⟩ = some (.int .u32 (s.words[j] : Int)) ∧ w'.cell? ⟨bq', oq' + j, none⟩ = some (.int .u32 (t.words[j] : Int)) := fun w' hw => by
                      obtain ⟨_, _, f3, f4⟩ := HF.out w' (hkx.then hw)
                      rw [hQA] at f3
                      rw [hQA'] at f4
                      exact ⟨f3, f4, ((hkx.then hw).cell (p := ⟨bq, oq + j, none⟩) hbq (by simp)).trans (hqs j hlj), ((hkx.then hw).cell (p := ⟨bq', oq' + j, none⟩) hbq' (by simp)).trans (hqs' j hlj')⟩
                    have j0 : (0 : Int) ≤ (j : Int) := by omega
                    have j1 : (j : Int) < s.words.length := by omega
                    have j2 : (j : Int) < t.words.length := by omega
                    have HKY := Lib.hid hkx
                    clear hqs hqs' hqe hword hword' hkx
                    obtain ⟨e1, e2, _, _⟩ := hF wr (Keep.refl _ _)
                    generalize s.words[j] = x at *
                    generalize t.words[j] = y at *
                    by_cases hab : x = y
                    · have HS := Lib.hid (hst2.out hab)
                      have q5 : ((x : Int) != (y : Int)) = false := by simp [hab]
                      have q6 : (x != y) = false := by simp [hab]
                      clear hab
                      go_wp2
                      refine wp_region_flow (Keep [] wr) rfl (by kernel_rfl) (Keep.refl _ _).drew ?_
                      repeat (refine fl_val (v := ?_) (by rfl) ?_ ?_; rotate_left; (intro w' hS; obtain ⟨f1,f2,f3,f4⟩ := hF w' hS; go_simp; with_reducible rfl); simp only [Act.put, List.setIfInBounds_toArray, List.set_cons_zero, List.set_cons_succ])
                      refine fl_nil ?_
                      intro w4 hS
                      have hrel4 : Hid (Keep [] wc w4) := HKY.out.then hS
                      go_wp2
                      go_roundg (gk - 1)
                      case rel => exact ⟨j + 1, by have := HJ.out; omega, by go_num, HS.out, hrel4.out⟩
                      case measure => have := HJ.out; omega
                    · have HR := Lib.hid (hno2.out hab)
                      have q5 : ((x : Int) != (y : Int)) = true := by simp; omega
                      have q6 : (x != y) = true := by simp [hab]
                      clear hab
                      go_wp2
                      refine wp_region_flow (Keep [] wr) rfl (by kernel_rfl) (Keep.refl _ _).drew ?_
                      repeat (refine fl_val (v := ?_) (by rfl) ?_ ?_; rotate_left; (intro w' hS; obtain ⟨f1,f2,f3,f4⟩ := hF w' hS; go_simp; with_reducible rfl); simp only [Act.put, List.setIfInBounds_toArray, List.set_cons_zero, List.set_cons_succ])
                      refine fl_nil ?_
                      intro w4 hS
                      have hrel4 : Hid (Keep [] w w4) := KB.out.then (HKY.out.then hS)
                      go_wp2
                      go_ret
                      exact ⟨by rw [HR.out]; rfl, hrel4.out⟩
                  · have HWE := Lib.hid (st_all (by omega) (by have := HE4.out; omega) hqe)
                    have HM : Hid ((stps ms).take (k + 1) = (stps ms').take (k + 1)) := hst.out (HIF.out.2 ⟨HE0.out, HE1.out, HE2.out, HSE.out, HWE.out⟩)
                    have HX : Hid (Keep [] w wr) := KB.out.then hkx
                    obtain ⟨e1, e2, e3, e4⟩ := HF.out wr hkx
                    clear hqe hword hword' hkx
                    go_wp2
                    rw [← HA.out, ← HA'.out]
                    go_roundg (og - 1)
                    case rel => exact ⟨k + 1, by have := HK.out; omega, by go_num, HM.out, HX.out⟩
                    case measure => have := HK.out; omega
      · have HM := Lib.hid (hT.out (st_all (by simpa using hlk) (by have := HL.out; simp; omega) heq))
        have HKp := Lib.hid hkeep
        clear heq hs hs' hkeep
        go_wp2
        go_ret
        exact ⟨by rw [HM.out]; rfl, HKp.out⟩
  · have q1 : ((ms.length : Int) != (ms'.length : Int)) = true := by simp; omega
    have HR := Lib.hid (hN0.out g1)
    clear g1
    go_enter Try.func16, Try.ntmps16
    go_wp2
    go_ret
    exact ⟨by rw [HR.out]; rfl, Keep.refl _ _⟩
end Go.Proofs.Ytoepkhkaifgddaa
