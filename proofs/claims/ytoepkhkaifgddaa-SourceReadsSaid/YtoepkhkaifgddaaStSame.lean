/- Two rows of steps are the same: the program's own answer, and the document's. No condition. -/
import Derived.Test.YtoepkhkaifgddaaStShape
import Derived.Test.YtoepkhkaifgddaaFlow
import Derived.Deep.DeepCutAuto
import Derived.Deep.LoopGhost
namespace Go.Proofs.Ytoepkhkaifgddaa
open Go.RowKit

theorem stpI_int (d : Nat) : PartI Try.prog 3 1 (d + 1) := partI_int Try.underlying3
theorem eqI_section (d : Nat) : EqI Try.prog 85 3 (d + 2) :=
  eqI_struct Try.underlying85 (by kernel_rfl) ⟨by decide, rfl, 1, stpI_int _, by decide, rfl, 1, stpI_int _, by decide, rfl, 1, stpI_int _, rfl⟩
theorem sctInts_inj {a b : Sct} : sctInts a = sctInts b ↔ a = b := by
  constructor
  · intro h
    obtain ⟨p, d, e⟩ := a
    obtain ⟨p', d', e'⟩ := b
    simp only [sctInts, List.cons.injEq] at h
    obtain ⟨rfl, rfl, rfl, _⟩ := h
    rfl
  · rintro rfl; rfl
theorem section_neq {a b : Sct} (w : World) : (binOp .neq 85 (.agg (sctCells a).toArray) (.agg (sctCells b).toArray)).run Try.prog w = .ok (.bool (!decide (a = b))) w := by
  have := run_neq_I (eqI_section 9998) (sctInts a) (sctInts b) rfl rfl w
  simp only [sctInts_inj] at this
  exact this
theorem section_guard (x y : Operand) (u v : Array Value) (w : World) : (eqGuard .neq 85 x y (.agg u) (.agg v)).run Try.prog w = .ok () w := guard_neq_I (by kernel_rfl) x y u v w
theorem st_take {α : Type} {l m : List α} {k : Nat} (hk : k < l.length) (hk' : k < m.length) (h : l.take k = m.take k) (e : l[k] = m[k]) : l.take (k + 1) = m.take (k + 1) := by
  rw [List.take_succ_eq_append_getElem hk, List.take_succ_eq_append_getElem hk', h, e]
theorem st_ne {α : Type} {l m : List α} {k : Nat} (hk : k < l.length) (hk' : k < m.length) (h : l[k] ≠ m[k]) : l ≠ m := by rintro rfl; exact h rfl
theorem st_all {α : Type} {l m : List α} {k : Nat} (hk : l.length ≤ k) (hk' : m.length ≤ k) (h : l.take k = m.take k) : l = m := by rwa [List.take_of_length_le hk, List.take_of_length_le hk'] at h
theorem stp_iff {s t : Stp} : s = t ↔ s.kind = t.kind ∧ s.a = t.a ∧ s.n = t.n ∧ s.secs = t.secs ∧ s.words = t.words := by
  obtain ⟨a, b, c, d, e⟩ := s
  obtain ⟨a', b', c', d', e'⟩ := t
  simp
theorem stBlk1 (w : World) (o : Obj) (t : TypeId) (cs : Array Value) : Blk ((w.alloc o).alloc (.cells cs t)) (w.heap.size + 1) t cs := by
  have := Blk.new (w.alloc o) t cs
  rwa [World.size_alloc] at this
abbrev stps (ms : List (Stp × StpV)) : List Stp := ms.map (·.1)

set_option maxRecDepth 100000 in
set_option maxHeartbeats 4000000 in
theorem ssame_any (A A' : Option Addr) (c c' : Nat) (ms ms' : List (Stp × StpV)) (w : World) (h : StepsAt w A ms) (h' : StepsAt w A' ms') :
    Calls Try.prog 15 #[.slice A ms.length c, .slice A' ms'.length c'] w fun e w' => e = .returned (.bool (decide (stps ms = stps ms'))) ∧ Keep [] w w' := by
  have l1 := h.len
  have l2 := h'.len
  have lq := Lib.hid h.each
  have lq' := Lib.hid h'.each
  have hs := h.step
  have hs' := h'.step
  unfold maxLen at l1 l2
  have hN0 := Lib.hid (fun (e : ms.length ≠ ms'.length) => (decide_eq_false (fun q => e (by simpa using congrArg List.length q)) : decide (stps ms = stps ms') = false))
  have hN := Lib.hid (fun (k : Nat) (hk : k < ms.length) (hk' : k < ms'.length) (e : ms[k].1 ≠ ms'[k].1) => (decide_eq_false (fun q => st_ne (l := stps ms) (m := stps ms') (k := k) (by simpa using hk) (by simpa using hk') (by simpa using e) q) : decide (stps ms = stps ms') = false))
  have hT := Lib.hid (fun (e : stps ms = stps ms') => (decide_eq_true e : decide (stps ms = stps ms') = true))
  clear h h'
  generalize decide (stps ms = stps ms') = r at *
  by_cases g1 : ms.length = ms'.length
  · have q1 : ((ms.length : Int) != (ms'.length : Int)) = false := by simp [g1]
    have HL := Lib.hid g1
    clear g1
    go_enter Try.func15, Try.ntmps15
    go_wp2
    go_step3
    go_wp2
    clear q1
    go_step3
    go_wp2
    go_loopg [17] ms.length (fun gk i wr => ∃ k : Nat, k + gk = ms.length ∧ i = .int .i64 k ∧ (stps ms).take k = (stps ms').take k ∧ Keep [] w wr)
    case atStart => exact ⟨0, by omega, rfl, rfl, Keep.refl _ _⟩
    case round =>
      obtain ⟨k, hk, rfl, heq, hkeep⟩ := hrel
      have HK := Lib.hid hk
      have hk9 : k ≤ ms.length := by omega
      clear hk
      by_cases hlk : k < ms.length
      · have hlk' : k < ms'.length := by have := HL.out; omega
        obtain ⟨b, o, hA, hb, hc⟩ := hs (by omega)
        obtain ⟨b', o', hA', hb', hc'⟩ := hs' (by omega)
        have hst : Hid (ms[k].1 = ms'[k].1 → (stps ms).take (k + 1) = (stps ms').take (k + 1)) := fun e => st_take (by simpa using hlk) (by simpa using hlk') heq (by simpa using e)
        have hno : Hid (ms[k].1 ≠ ms'[k].1 → r = false) := hN.out k hlk hlk'
        have hm := lq.out _ (List.getElem_mem hlk)
        have hm' := lq'.out _ (List.getElem_mem hlk')
        have ci := hc k hlk
        have ci' := hc' k hlk'
        have k0 : (0 : Int) ≤ (k : Int) := by omega
        have k1 : (k : Int) < ms.length := by omega
        have k2 : (k : Int) < ms'.length := by omega
        clear hc hc' heq hs hs' lq lq' hN hN0 hT
        generalize ms[k] = m at *
        generalize ms'[k] = m' at *
        obtain ⟨s, v⟩ := m
        obtain ⟨t, v'⟩ := m'
        simp only at hst hno hm hm'
        have c0 := (hkeep.cell (p := ⟨b, o + k * 5, none⟩) hb (by simp)).trans (ci 0 _ rfl)
        have c1 := (hkeep.cell (p := ⟨b, o + k * 5 + 1, none⟩) hb (by simp)).trans (ci 1 _ rfl)
        have c2 := (hkeep.cell (p := ⟨b, o + k * 5 + 2, none⟩) hb (by simp)).trans (ci 2 _ rfl)
        have c3 := (hkeep.cell (p := ⟨b, o + k * 5 + 3, none⟩) hb (by simp)).trans (ci 3 _ rfl)
        have c4 := (hkeep.cell (p := ⟨b, o + k * 5 + 4, none⟩) hb (by simp)).trans (ci 4 _ rfl)
        simp only at c0 c1 c2 c3 c4
        have kA := (Keep.refl [] wr).alloc (.cells #[.int .i64 s.kind, .int .i64 s.a, .int .i64 s.n, .slice v.sa s.secs.length v.sc, .slice v.wa s.words.length v.wc] 45)
        have KA := hkeep.then kA
        have d0 := (KA.cell (p := ⟨b', o' + k * 5, none⟩) hb' (by simp)).trans (ci' 0 _ rfl)
        have d1 := (KA.cell (p := ⟨b', o' + k * 5 + 1, none⟩) hb' (by simp)).trans (ci' 1 _ rfl)
        have d2 := (KA.cell (p := ⟨b', o' + k * 5 + 2, none⟩) hb' (by simp)).trans (ci' 2 _ rfl)
        have d3 := (KA.cell (p := ⟨b', o' + k * 5 + 3, none⟩) hb' (by simp)).trans (ci' 3 _ rfl)
        have d4 := (KA.cell (p := ⟨b', o' + k * 5 + 4, none⟩) hb' (by simp)).trans (ci' 4 _ rfl)
        simp only at d0 d1 d2 d3 d4
        have kB := kA.alloc (.cells #[.int .i64 t.kind, .int .i64 t.a, .int .i64 t.n, .slice v'.sa t.secs.length v'.sc, .slice v'.wa t.words.length v'.wc] 45)
        have KB := Lib.hid (hkeep.then kB)
        have hif := @stp_iff s t
        have HIF := Lib.hid hif
        have hls := hm.ls
        have hlw := hm.lw
        have hls' := hm'.ls
        have hlw' := hm'.lw
        unfold maxLen at hls hlw hls' hlw'
        clear ci ci' kA KA kB hif
        have hcase : ((s.kind != t.kind) = true) ∨ ((s.kind != t.kind) = false ∧ (s.a != t.a) = true) ∨ ((s.kind != t.kind) = false ∧ (s.a != t.a) = false ∧ (s.n != t.n) = true) ∨ ((s.kind != t.kind) = false ∧ (s.a != t.a) = false ∧ (s.n != t.n) = false ∧ ((s.secs.length : Int) != (t.secs.length : Int)) = true) ∨ ((s.kind != t.kind) = false ∧ (s.a != t.a) = false ∧ (s.n != t.n) = false ∧ ((s.secs.length : Int) != (t.secs.length : Int)) = false ∧ ((s.words.length : Int) != (t.words.length : Int)) = true) ∨ ((s.kind != t.kind) = false ∧ (s.a != t.a) = false ∧ (s.n != t.n) = false ∧ ((s.secs.length : Int) != (t.secs.length : Int)) = false ∧ ((s.words.length : Int) != (t.words.length : Int)) = false) := by
          cases (s.kind != t.kind) <;> cases (s.a != t.a) <;> cases (s.n != t.n) <;> cases ((s.secs.length : Int) != (t.secs.length : Int)) <;> cases ((s.words.length : Int) != (t.words.length : Int)) <;> simp
        have HA := Lib.hid hA
        have HA' := Lib.hid hA'
        rw [hA, hA']
        rcases hcase with g0 | ⟨g0, g1⟩ | ⟨g0, g1, g2⟩ | ⟨g0, g1, g2, g3⟩ | ⟨g0, g1, g2, g3, g4⟩ | ⟨g0, g1, g2, g3, g4⟩
        · have HR := Lib.hid (hno.out (fun e => by rw [e] at g0; simp at g0))
          go_wp2
          rw [Exit.noGoto_ret]
          go_ret
          exact ⟨by rw [HR.out]; rfl, KB.out⟩
        · have HR := Lib.hid (hno.out (fun e => by rw [e] at g1; simp at g1))
          go_wp2
          rw [Exit.noGoto_ret]
          go_ret
          exact ⟨by rw [HR.out]; rfl, KB.out⟩
        · have HR := Lib.hid (hno.out (fun e => by rw [e] at g2; simp at g2))
          go_wp2
          rw [Exit.noGoto_ret]
          go_ret
          exact ⟨by rw [HR.out]; rfl, KB.out⟩
        · have HR := Lib.hid (hno.out (fun e => by rw [e] at g3; simp at g3))
          have n3 : (s.secs.length != t.secs.length) = true := by simp at g3 ⊢; omega
          go_wp2
          rw [Exit.noGoto_ret]
          go_ret
          exact ⟨by rw [HR.out]; rfl, KB.out⟩
        · have HR := Lib.hid (hno.out (fun e => by rw [e] at g4; simp at g4))
          have n3 : (s.secs.length != t.secs.length) = false := by simp at g3 ⊢; omega
          have n4 : (s.words.length != t.words.length) = true := by simp at g4 ⊢; omega
          go_wp2
          rw [Exit.noGoto_ret]
          go_ret
          exact ⟨by rw [HR.out]; rfl, KB.out⟩
        · have n3 : (s.secs.length != t.secs.length) = false := by simp at g3 ⊢; omega
          have n4 : (s.words.length != t.words.length) = false := by simp at g4 ⊢; omega
          have HE0 : Hid (s.kind = t.kind) := show _ = _ by simpa using g0
          have HE1 : Hid (s.a = t.a) := show _ = _ by simpa using g1
          have HE2 : Hid (s.n = t.n) := show _ = _ by simpa using g2
          have HE3 : Hid (s.secs.length = t.secs.length) := show _ = _ by simpa using n3
          have HE4 : Hid (s.words.length = t.words.length) := show _ = _ by simpa using n4
          have b7 := (Blk.new wr 45 #[.int .i64 s.kind, .int .i64 s.a, .int .i64 s.n, .slice v.sa s.secs.length v.sc, .slice v.wa s.words.length v.wc]).alloc (.cells #[.int .i64 t.kind, .int .i64 t.a, .int .i64 t.n, .slice v'.sa t.secs.length v'.sc, .slice v'.wa t.words.length v'.wc] 45)
          have b8 := stBlk1 wr (.cells #[.int .i64 s.kind, .int .i64 s.a, .int .i64 s.n, .slice v.sa s.secs.length v.sc, .slice v.wa s.words.length v.wc] 45) 45 #[.int .i64 t.kind, .int .i64 t.a, .int .i64 t.n, .slice v'.sa t.secs.length v'.sc, .slice v'.wa t.words.length v'.wc]
          go_wp2
          obtain ⟨W2, hW2⟩ : ∃ W2, (wr.alloc (.cells #[.int .i64 s.kind, .int .i64 s.a, .int .i64 s.n, .slice v.sa s.secs.length v.sc, .slice v.wa s.words.length v.wc] 45)).alloc (.cells #[.int .i64 t.kind, .int .i64 t.a, .int .i64 t.n, .slice v'.sa t.secs.length v'.sc, .slice v'.wa t.words.length v'.wc] 45) = W2 := ⟨_, rfl⟩
          rw [hW2] at KB b7 b8 ⊢
          obtain ⟨g7, hg7⟩ : ∃ g7, wr.heap.size = g7 := ⟨_, rfl⟩
          rw [hg7] at b7 b8 ⊢
          have HF : Hid (∀ w', Keep [] W2 w' → w'.cell? ⟨g7, 3, none⟩ = some (.slice v.sa s.secs.length v.sc) ∧ w'.cell? ⟨g7 + 1, 3, none⟩ = some (.slice v'.sa t.secs.length v'.sc) ∧
              w'.cell? ⟨g7, 4, none⟩ = some (.slice v.wa s.words.length v.wc) ∧ w'.cell? ⟨g7 + 1, 4, none⟩ = some (.slice v'.wa t.words.length v'.wc)) := fun w' hw =>
            ⟨(by rw [(Blk.keep0 b7 hw).cell]; rfl), (by rw [(Blk.keep0 b8 hw).cell]; rfl), (by rw [(Blk.keep0 b7 hw).cell]; rfl), (by rw [(Blk.keep0 b8 hw).cell]; rfl)⟩
          have hsec := (hm.keep0 KB.out).sec
          have hsec' := (hm'.keep0 KB.out).sec
          have hword := (hm.keep0 KB.out).word
          have hword' := (hm'.keep0 KB.out).word
          clear hW2 hg7 b7 b8 hm hm' hA hA' hkeep g0 g1 g2 g3 g4 n3 n4 c0 c1 c2 c3 c4 d0 d1 d2 d3 d4
          obtain ⟨f1, f2, f3, f4⟩ := HF.out W2 (Keep.refl _ _)
          obtain ⟨og, hog⟩ : ∃ og, og = gk := ⟨_, rfl⟩
          subst hog
          go_wp2
          go_loopg [66] s.secs.length (fun gj i wx => ∃ j : Nat, j + gj = s.secs.length ∧ i = .int .i64 j ∧ s.secs.take j = t.secs.take j ∧ Keep [] W2 wx)
          case atStart => exact ⟨0, by omega, rfl, rfl, Keep.refl _ _⟩
          case round =>
            clear f1 f2 f3 f4
            obtain ⟨j, hj, rfl, hqe, hkx⟩ := hrel
            have HJ := Lib.hid hj
            have hj9 : j ≤ s.secs.length := by omega
            clear hj
            by_cases hlj : j < s.secs.length
            · have hlj' : j < t.secs.length := by have := HE3.out; omega
              obtain ⟨bq, oq, hQA, hbq, hqs⟩ := hsec (by omega)
              obtain ⟨bq', oq', hQA', hbq', hqs'⟩ := hsec' (by omega)
              have hst2 : Hid (s.secs[j] = t.secs[j] → s.secs.take (j + 1) = t.secs.take (j + 1)) := st_take hlj hlj' hqe
              have hno2 : Hid (s.secs[j] ≠ t.secs[j] → r = false) := fun hne => hno.out (fun e => (st_ne hlj hlj' hne) (HIF.out.1 e).2.2.2.1)
              have hc1 : Hid (∀ w', Keep [] wr w' → CellsAt w' bq (oq + j * 3) (sctCells s.secs[j])) := fun w' hw => (hqs j hlj).keep0 (hkx.then hw) hbq
              have hc2 : Hid (∀ w', Keep [] wr w' → CellsAt w' bq' (oq' + j * 3) (sctCells t.secs[j])) := fun w' hw => (hqs' j hlj').keep0 (hkx.then hw) hbq'
              have hF : ∀ w', Keep [] wr w' → w'.cell? ⟨g7, 3, none⟩ = some (.slice (some ⟨bq, oq, none⟩) s.secs.length v.sc) ∧ w'.cell? ⟨g7 + 1, 3, none⟩ = some (.slice (some ⟨bq', oq', none⟩) t.secs.length v'.sc) := fun w' hw => by
                obtain ⟨f1, f2, _, _⟩ := HF.out w' (hkx.then hw)
                rw [hQA] at f1
                rw [hQA'] at f2
                exact ⟨f1, f2⟩
              have hneq := fun W => section_neq (a := s.secs[j]) (b := t.secs[j]) W
              have hgd := fun x y W => section_guard x y (sctCells s.secs[j]).toArray (sctCells t.secs[j]).toArray W
              have j0 : (0 : Int) ≤ (j : Int) := by omega
              have j1 : (j : Int) < s.secs.length := by omega
              have j2 : (j : Int) < t.secs.length := by omega
              have HKX := Lib.hid hkx
              clear hqs hqs' hqe hsec hsec' hword hword' hkx
              generalize s.secs[j] = x at *
              generalize t.secs[j] = y at *
              by_cases hab : x = y
              · have HS := Lib.hid (hst2.out hab)
                have hd : (!decide (x = y)) = false := by simp [hab]
                rw [hd] at hneq
                clear hab hd
                generalize hxc : sctCells x = xc at *
                generalize hyc : sctCells y = yc at *
                have HXL : Hid (xc.length = 3) := show _ = _ by rw [← hxc]; rfl
                have HYL : Hid (yc.length = 3) := show _ = _ by rw [← hyc]; rfl
                clear hxc hyc
                go_wp2
                refine wp_region_flow (Keep [] wr) rfl (by kernel_rfl) (Keep.refl _ _).drew ?_
                repeat (refine fl_val (v := ?_) (by rfl) ?_ ?_; rotate_left; (intro w' hS; obtain ⟨f1,f2⟩ := hF w' hS; go_simp; with_reducible rfl); simp only [Act.put, List.setIfInBounds_toArray, List.set_cons_zero, List.set_cons_succ])
                refine fl_agg 85 (.tmp 72) xc rfl rfl rfl (by rw [HXL.out]; exact agg_section) (fun w' hw => hc1.out w' hw) ?_
                simp only [Act.put, List.setIfInBounds_toArray, List.set_cons_zero, List.set_cons_succ]
                repeat (refine fl_val (v := ?_) (by rfl) ?_ ?_; rotate_left; (intro w' hS; obtain ⟨f1,f2⟩ := hF w' hS; go_simp; with_reducible rfl); simp only [Act.put, List.setIfInBounds_toArray, List.set_cons_zero, List.set_cons_succ])
                refine fl_agg 85 (.tmp 77) yc rfl rfl rfl (by rw [HYL.out]; exact agg_section) (fun w' hw => hc2.out w' hw) ?_
                simp only [Act.put, List.setIfInBounds_toArray, List.set_cons_zero, List.set_cons_succ]
                repeat (refine fl_val (v := ?_) (by rfl) ?_ ?_; rotate_left; (intro w' hS; obtain ⟨f1,f2⟩ := hF w' hS; go_simp; with_reducible rfl); simp only [Act.put, List.setIfInBounds_toArray, List.set_cons_zero, List.set_cons_succ])
                refine fl_nil ?_
                intro w4 hS
                have hrel4 : Hid (Keep [] W2 w4) := HKX.out.then hS
                go_wp2
                go_roundg (gk - 1)
                case rel => exact ⟨j + 1, by have := HJ.out; omega, by go_num, HS.out, hrel4.out⟩
                case measure => have := HJ.out; omega
              · have HR := Lib.hid (hno2.out hab)
                have hd : (!decide (x = y)) = true := by simp [hab]
                rw [hd] at hneq
                clear hab hd
                generalize hxc : sctCells x = xc at *
                generalize hyc : sctCells y = yc at *
                have HXL : Hid (xc.length = 3) := show _ = _ by rw [← hxc]; rfl
                have HYL : Hid (yc.length = 3) := show _ = _ by rw [← hyc]; rfl
                clear hxc hyc
                go_wp2
                refine wp_region_flow (Keep [] wr) rfl (by kernel_rfl) (Keep.refl _ _).drew ?_
                repeat (refine fl_val (v := ?_) (by rfl) ?_ ?_; rotate_left; (intro w' hS; obtain ⟨f1,f2⟩ := hF w' hS; go_simp; with_reducible rfl); simp only [Act.put, List.setIfInBounds_toArray, List.set_cons_zero, List.set_cons_succ])
                refine fl_agg 85 (.tmp 72) xc rfl rfl rfl (by rw [HXL.out]; exact agg_section) (fun w' hw => hc1.out w' hw) ?_
                simp only [Act.put, List.setIfInBounds_toArray, List.set_cons_zero, List.set_cons_succ]
                repeat (refine fl_val (v := ?_) (by rfl) ?_ ?_; rotate_left; (intro w' hS; obtain ⟨f1,f2⟩ := hF w' hS; go_simp; with_reducible rfl); simp only [Act.put, List.setIfInBounds_toArray, List.set_cons_zero, List.set_cons_succ])
                refine fl_agg 85 (.tmp 77) yc rfl rfl rfl (by rw [HYL.out]; exact agg_section) (fun w' hw => hc2.out w' hw) ?_
                simp only [Act.put, List.setIfInBounds_toArray, List.set_cons_zero, List.set_cons_succ]
                repeat (refine fl_val (v := ?_) (by rfl) ?_ ?_; rotate_left; (intro w' hS; obtain ⟨f1,f2⟩ := hF w' hS; go_simp; with_reducible rfl); simp only [Act.put, List.setIfInBounds_toArray, List.set_cons_zero, List.set_cons_succ])
                refine fl_nil ?_
                intro w4 hS
                have hrel4 : Hid (Keep [] w w4) := KB.out.then (HKX.out.then hS)
                go_wp2
                rw [Exit.noGoto_ret]
                go_ret
                exact ⟨by rw [HR.out]; rfl, hrel4.out⟩
            · have HSE := Lib.hid (st_all (by omega) (by have := HE3.out; omega) hqe)
              obtain ⟨f1, f2, f3, f4⟩ := HF.out wr hkx
              have HKX := Lib.hid hkx
              clear hqe hsec hsec' hkx
              obtain ⟨ws, hws⟩ : ∃ ws, ws = wr := ⟨_, rfl⟩
              subst hws
              go_wp2
              go_loopg [84] s.words.length (fun gj i wx => ∃ j : Nat, j + gj = s.words.length ∧ i = .int .i64 j ∧ s.words.take j = t.words.take j ∧ Keep [] W2 wx)
              case atStart => exact ⟨0, by omega, rfl, rfl, HKX.out⟩
              case round =>
                clear f1 f2 f3 f4
                obtain ⟨j, hj, rfl, hqe, hkx⟩ := hrel
                have HJ := Lib.hid hj
                have hj8 : j ≤ s.words.length := by omega
                clear hj
                by_cases hlj : j < s.words.length
                · have hlj' : j < t.words.length := by have := HE4.out; omega
                  obtain ⟨bq, oq, hQA, hbq, hqs⟩ := hword (by omega)
                  obtain ⟨bq', oq', hQA', hbq', hqs'⟩ := hword' (by omega)
                  have hst2 : Hid (s.words[j] = t.words[j] → s.words.take (j + 1) = t.words.take (j + 1)) := st_take hlj hlj' hqe
                  have hno2 : Hid (s.words[j] ≠ t.words[j] → r = false) := fun hne => hno.out (fun e => (st_ne hlj hlj' hne) (HIF.out.1 e).2.2.2.2)
                  have hF : ∀ w', Keep [] wr w' → w'.cell? ⟨g7, 4, none⟩ = some (.slice (some ⟨bq, oq, none⟩) s.words.length v.wc) ∧ w'.cell? ⟨g7 + 1, 4, none⟩ = some (.slice (some ⟨bq', oq', none⟩) t.words.length v'.wc) ∧
                      w'.cell? ⟨bq, oq + j, none⟩ = some (.int .u32 (s.words[j] : Int)) ∧ w'.cell? ⟨bq', oq' + j, none⟩ = some (.int .u32 (t.words[j] : Int)) := fun w' hw => by
                    obtain ⟨_, _, f3, f4⟩ := HF.out w' (hkx.then hw)
                    rw [hQA] at f3
                    rw [hQA'] at f4
                    exact ⟨f3, f4, ((hkx.then hw).cell (p := ⟨bq, oq + j, none⟩) hbq (by simp)).trans (hqs j hlj), ((hkx.then hw).cell (p := ⟨bq', oq' + j, none⟩) hbq' (by simp)).trans (hqs' j hlj')⟩
                  have j0 : (0 : Int) ≤ (j : Int) := by omega
                  have j1 : (j : Int) < s.words.length := by omega
                  have j2 : (j : Int) < t.words.length := by omega
                  have HKY := Lib.hid hkx
                  clear hqs hqs' hqe hword hword' hkx
                  generalize s.words[j] = x at *
                  generalize t.words[j] = y at *
                  by_cases hab : x = y
                  · have HS := Lib.hid (hst2.out hab)
                    have q5 : ((x : Int) != (y : Int)) = false := by simp [hab]
                    have q6 : (x != y) = false := by simp [hab]
                    clear hab
                    go_wp2
                    refine wp_region_flow (Keep [] wr) rfl (by kernel_rfl) (Keep.refl _ _).drew ?_
                    repeat (refine fl_val (v := ?_) (by rfl) ?_ ?_; rotate_left; (intro w' hS; obtain ⟨f1,f2,f3,f4⟩ := hF w' hS; go_simp; with_reducible rfl); simp only [Act.put, List.setIfInBounds_toArray, List.set_cons_zero, List.set_cons_succ])
                    refine fl_nil ?_
                    intro w4 hS
                    have hrel4 : Hid (Keep [] W2 w4) := HKY.out.then hS
                    go_wp2
                    go_roundg (gk - 1)
                    case rel => exact ⟨j + 1, by have := HJ.out; omega, by go_num, HS.out, hrel4.out⟩
                    case measure => have := HJ.out; omega
                  · have HR := Lib.hid (hno2.out hab)
                    have q5 : ((x : Int) != (y : Int)) = true := by simp; omega
                    have q6 : (x != y) = true := by simp [hab]
                    clear hab
                    go_wp2
                    refine wp_region_flow (Keep [] wr) rfl (by kernel_rfl) (Keep.refl _ _).drew ?_
                    repeat (refine fl_val (v := ?_) (by rfl) ?_ ?_; rotate_left; (intro w' hS; obtain ⟨f1,f2,f3,f4⟩ := hF w' hS; go_simp; with_reducible rfl); simp only [Act.put, List.setIfInBounds_toArray, List.set_cons_zero, List.set_cons_succ])
                    refine fl_nil ?_
                    intro w4 hS
                    have hrel4 : Hid (Keep [] w w4) := KB.out.then (HKY.out.then hS)
                    go_wp2
                    rw [Exit.noGoto_ret]
                    go_ret
                    exact ⟨by rw [HR.out]; rfl, hrel4.out⟩
                · have HWE := Lib.hid (st_all (by omega) (by have := HE4.out; omega) hqe)
                  have HM : Hid ((stps ms).take (k + 1) = (stps ms').take (k + 1)) := hst.out (HIF.out.2 ⟨HE0.out, HE1.out, HE2.out, HSE.out, HWE.out⟩)
                  have HX : Hid (Keep [] w wr) := KB.out.then hkx
                  clear hqe hword hword' hkx
                  go_wp2
                  rw [← HA.out, ← HA'.out]
                  go_roundg (og - 1)
                  case rel => exact ⟨k + 1, by have := HK.out; omega, by go_num, HM.out, HX.out⟩
                  case measure => have := HK.out; omega
      · have HM := Lib.hid (hT.out (st_all (by simpa using hlk) (by have := HL.out; simp; omega) heq))
        have HKp := Lib.hid hkeep
        clear heq hs hs' hkeep
        go_wp2
        rw [Exit.noGoto_ret]
        go_ret
        exact ⟨by rw [HM.out]; rfl, HKp.out⟩
  · have q1 : ((ms.length : Int) != (ms'.length : Int)) = true := by simp; omega
    have HR := Lib.hid (hN0.out g1)
    clear g1
    go_enter Try.func15, Try.ntmps15
    go_wp2
    go_step3
    go_wp2
    rw [Exit.noGoto_ret]
    go_ret
    exact ⟨by rw [HR.out]; rfl, Keep.refl _ _⟩
end Go.Proofs.Ytoepkhkaifgddaa
