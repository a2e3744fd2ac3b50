/- The entries that a device's words say, as the law gathers them; walked. Condition: the device is one that may be. -/
import Derived.Test.YteanpgkonhdbpaaJrTherP
import Derived.Test.YteanpgkonhdbpaaJrEntry
import Derived.Test.YteanpgkonhdbpaaJrKept
import Derived.Test.YteanpgkonhdbpaaJrHelp
import Derived.Test.YteanpgkonhdbpaaFlashSect
import Derived.Test.YteanpgkonhdbpaaJrApp
namespace Go.Proofs.Yteanpgkonhdbpaa
open Go.RowKit

/-- A row of entries of the call's own, so far. -/
def RowAt (w wr : World) (L : List (Nat × Nat)) (v : Value) : Prop := ∃ A c, v = .slice A L.length c ∧ wr.ownsRow w.heap.size 46 2 (.slice A L.length c) L.length (L.flatMap entC) ∧ Keep [] w wr

theorem reads_take {w : World} {b o : Nat} {L : List (Nat × Nat)} {k : Nat} (h : Reads w 2 (some ⟨b, o, none⟩) L.length (L.flatMap entC)) (hk : k ≤ L.length) : Reads w 2 (some ⟨b, o, none⟩) k ((L.take k).flatMap entC) := by
  refine ⟨?_, fun h0 => ?_⟩
  · have : ∀ M : List (Nat × Nat), (M.flatMap entC).length = M.length * 2 := fun M => by induction M with
      | nil => rfl
      | cons x l ih => simp [entC] at ih ⊢; omega
    rw [this, List.length_take, Nat.min_eq_left hk]
  · obtain ⟨b', o', e, hlt, hc⟩ := h.2 (by omega)
    cases e
    refine ⟨b, o, rfl, hlt, fun j u hu => hc j u ?_⟩
    have hs : L.flatMap entC = (L.take k).flatMap entC ++ (L.drop k).flatMap entC := by rw [← List.flatMap_append, List.take_append_drop]
    rw [hs, List.getElem?_append_left (List.getElem?_eq_some_iff.1 hu).1]
    exact hu
theorem flat_len (M : List (Nat × Nat)) : (M.flatMap entC).length = M.length * 2 := by
  induction M with
  | nil => rfl
  | cons x l ih => simp [entC] at ih ⊢; omega
theorem reads_drop {w : World} {b o : Nat} {L : List (Nat × Nat)} {k c : Nat} (h : Reads w 2 (some ⟨b, o, none⟩) L.length (L.flatMap entC)) (hk : k ≤ L.length) (hc : L.length ≤ c) : Reads w 2 (if c = k then some ⟨b, o, none⟩ else some ⟨b, o + k * 2, none⟩) (L.length - k) ((L.drop k).flatMap entC) := by
  refine ⟨by rw [flat_len, List.length_drop], fun h0 => ?_⟩
  rw [if_neg (by omega)]
  obtain ⟨b', o', e, hlt, hcs⟩ := h.2 (by omega)
  cases e
  refine ⟨b, o + k * 2, rfl, hlt, fun j u hu => ?_⟩
  rw [Nat.add_assoc]
  refine hcs (k * 2 + j) u ?_
  have hs : L.flatMap entC = (L.take k).flatMap entC ++ (L.drop k).flatMap entC := by rw [← List.flatMap_append, List.take_append_drop]
  rw [hs, List.getElem?_append_right (by rw [flat_len, List.length_take, Nat.min_eq_left hk]; omega), flat_len, List.length_take, Nat.min_eq_left hk, Nat.add_sub_cancel_left]
  exact hu
theorem flat_one (L : List (Nat × Nat)) : ∀ u ∈ L.flatMap entC, u.oneCell' = true := fun u hu => by
  obtain ⟨x, _, hx⟩ := List.mem_flatMap.1 hu
  exact entC_one x u hx

set_option maxRecDepth 100000 in
set_option maxHeartbeats 8000000 in
theorem there_any47 (g b1 b2 base many : Nat) (d : Dev) (w : World) (hd : DevAt w g b1 b2 d) (ho : d.Ok) (hb : base + many ≤ d.ns) :
    Calls Try.prog 23 #[.pointer (some ⟨g, 0, none⟩), .int .i64 (base : Int), .int .i64 (many : Int)] w (RetEnts w (sortE (entsJ (ownW d base) many (d.nw / 4)))) := by
  have hns := ho.ns2
  have hnw := ho.nw2
  have HD := Lib.hid hd
  have HO := Lib.hid ho
  have HB := Lib.hid hb
  obtain ⟨K, hK⟩ : ∃ K, d.nw / 4 = K := ⟨_, rfl⟩
  have HK := Lib.hid hK
  rw [hK]
  have hK2 : K ≤ 256 := by omega
  have hm64 : many ≤ 64 := by omega
  have hb64 : base ≤ 64 := by omega
  have HLEN : Hid (∀ s a, s ≤ many → a ≤ K → (accJ (ownW d base) K s a).length ≤ 100000) := fun s a h1 h2 => by
    have h3 := accJ_len (ownW d base) K s a
    have h4 := Nat.mul_le_mul (show s ≤ 64 by omega) hK2
    omega
  rw [← accJ_end]
  clear hd ho hb hK
  go_enter Try.func23, Try.ntmps23
  go_wp2
  go_loopw [7, 8] (fun v7 v8 wr => ∃ s : Nat, s ≤ many ∧ v8 = .int .i64 (s : Int) ∧ RowAt w wr (accJ (ownW d base) K s 0) v7) (fun _ v8 _ => many - (intOf v8).toNat)
  case atStart => exact ⟨0, Nat.zero_le _, rfl, none, 0, rfl, World.ownsRow_nil _ _ _ _, Keep.refl _ _⟩
  case round =>
    obtain ⟨s, hs, rfl, A, c, rfl, hown, hkp⟩ := hrel
    by_cases hlt : s < many
    · have p1 : (s : Int) < (many : Int) := by omega
      have hw1 : IntKind.i64.wrap ((base : Int) + (s : Int)) = ((base + s : Nat) : Int) := by rw [show (base : Int) + (s : Int) = ((base + s : Nat) : Int) by omega]; exact IntWalk.i64_in _ (by omega)
      have HSC : Hid (∀ W, Keep [] w W → Calls Try.prog 39 #[.pointer (some ⟨g, 0, none⟩), .int .i64 ((base + s : Nat) : Int)] W (RetWords W (sectL d (base + s)))) := fun W hk => by
        have := fsector_any g b1 b2 d ((base + s : Nat) : Int) W (HD.out.keep0 hk) HO.out
        have h2 := HB.out
        rw [show sectS d ((base + s : Nat) : Int) = sectL d (base + s) by unfold sectS; rw [if_pos (by omega)]; rfl] at this
        exact this
      have HKP := Lib.hid hkp
      have HOWN := Lib.hid hown
      have HLN := Lib.hid (HLEN.out s 0 hs (Nat.zero_le _))
      clear hkp hown
      go_wp2_with fail
      refine (HSC.out _ HKP.out).mono ?_
      rintro e ws ⟨Al, cl, rfl, hol, ks⟩
      have hbs : base + s < d.ns := by have := HB.out; omega
      rw [sectL_len d HO.out _ hbs] at hol ⊢
      obtain ⟨gs, cs, e1, _, hgs, _⟩ := own_some hol (by have := HO.out.nw1; omega)
      cases e1
      have hcapf : d.nw ≤ cl := by
        rcases hol.2 with ⟨h1, _⟩ | ⟨_, _, _, h1, _, _, h2, _⟩
        · cases h1
        · cases h1; exact h2
      have HRD : Hid (∀ a, a < K → ∀ W, Keep [] ws W → Reads W 1 (some ⟨gs, a * 4, none⟩) 4 (wordsV (slotL d (base + s) a))) := fun a ha W hW => by
        have hKK := HK.out
        refine ⟨rfl, fun _ => ⟨gs, a * 4, rfl, Nat.lt_of_lt_of_le hgs hW.size, fun i u hu => ?_⟩⟩
        have hi : i < 4 := by
          have := (List.getElem?_eq_some_iff.1 hu).1
          simpa [slotL] using this
        obtain ⟨b', o', e2, _, hc⟩ := (Reads.of_own hol).addr (by have := HO.out.nw1; omega)
        cases e2
        have h1 : a * 4 + i < d.nw := by omega
        have h3 : (sectL d (base + s))[a * 4 + i]? = some (wdJ d (base + s) (a * 4 + i)) := by
          rw [sectL_get d (base + s) (a * 4 + i) h1]
          unfold wdJ
          rw [List.getD_eq_getElem?_getD, List.getElem?_eq_getElem (in_bits HO.out hbs h1)]
          rfl
        have := hc (a * 4 + i) u (by
          rw [← hu, List.getElem?_map, h3]
          have hi' : i = 0 ∨ i = 1 ∨ i = 2 ∨ i = 3 := by omega
          rcases hi' with rfl | rfl | rfl | rfl <;> rfl)
        rw [Nat.zero_add] at this
        exact (hW.cell (p := ⟨gs, a * 4 + i, none⟩) hgs (by simp)).trans this
      have HKS := Lib.hid (HKP.out.then ks)
      have hown2 : ws.ownsRow w.heap.size 46 2 (.slice A (accJ (ownW d base) K s 0).length c) (accJ (ownW d base) K s 0).length ((accJ (ownW d base) K s 0).flatMap entC) := own_keep0 HOWN.out ks
      have HOWN2 := Lib.hid hown2
      have hnk : K * 4 ≤ d.nw ∧ d.nw < K * 4 + 4 := by have := HK.out; omega
      clear hol hown2 ks HOWN HSC hgs
      have HWL : Hid (∀ q, wdJ d (base + s) q < 4294967296) := fun q => wd_lt HO.out _ _
      go_wp2_with fail
      go_loopw [7, 10] (fun v7 v10 wm => ∃ a : Nat, a ≤ K ∧ v10 = .int .i64 ((a * 4 : Nat) : Int) ∧ RowAt w wm (accJ (ownW d base) K s a) v7 ∧ Keep [] ws wm) (fun _ v10 _ => d.nw - (intOf v10).toNat)
      case atStart => exact ⟨0, Nat.zero_le _, rfl, ⟨A, c, rfl, HOWN2.out, HKS.out⟩, Keep.refl _ _⟩
      case round =>
        obtain ⟨a, ha, rfl, ⟨A', c', rfl, hown, hkp⟩, hkm⟩ := hrel
        by_cases hla : a < K
        · have hw2 : IntKind.i64.wrap (((a * 4 : Nat) : Int) + 4) = ((a * 4 + 4 : Nat) : Int) := by rw [show ((a * 4 : Nat) : Int) + 4 = ((a * 4 + 4 : Nat) : Int) by omega]; exact IntWalk.i64_in _ (by omega)
          have q1 : decide (((a * 4 + 4 : Nat) : Int) ≤ (d.nw : Int)) = true := decide_eq_true (by omega)
          have r1 : (a * 4 + 4 ≤ d.nw) = True := eq_true (by omega)
          have q2 : (0 : Int) ≤ ((a * 4 : Nat) : Int) := by omega
          have q3 : ((a * 4 : Nat) : Int) ≤ ((a * 4 + 4 : Nat) : Int) := by omega
          have q4 : ((a * 4 + 4 : Nat) : Int) ≤ (cl : Int) := by omega
          have HEN : Hid (∀ W, Keep [] ws W → ∀ c', Calls Try.prog 68 #[.slice (some ⟨gs, a * 4, none⟩) 4 c'] W (RetE W (entJ (ownW d base) s a))) := fun W hW c' =>
            entry_any47 ⟨gs, a * 4, none⟩ c' (wdJ d (base + s) (a * 4)) (wdJ d (base + s) (a * 4 + 1)) (wdJ d (base + s) (a * 4 + 2)) (wdJ d (base + s) (a * 4 + 3)) W (HRD.out a hla W hW) (HWL.out _) (HWL.out _) (HWL.out _) (HWL.out _)
          obtain ⟨r, hr⟩ : ∃ r, entJ (ownW d base) s a = r := ⟨_, rfl⟩
          have HR := Lib.hid hr
          rw [hr] at HEN
          clear hr
          obtain ⟨L, hL⟩ : ∃ L, accJ (ownW d base) K s a = L := ⟨_, rfl⟩
          have HLL : Hid (L.length ≤ 100000) := by rw [← hL]; exact HLEN.out s a hs ha
          have HSO : Hid (SortedE L) := by rw [← hL]; exact accJ_sorted _ _ _ _
          have HL := Lib.hid hL
          rw [hL] at hown ⊢
          clear hL
          have HKM := Lib.hid hkm
          have HKP2 := Lib.hid hkp
          have HOW := Lib.hid hown
          clear hkm hkp hown
          go_wp2_with (first
            | (refine (HEN.out _ HKM.out _).mono ?_; rintro e we ⟨rfl, ke⟩)
            | (refine stop_store 46 (.tmp 11) (.tmp 38) rfl ?_))
          constructor
          refine wpList_store_all rfl 46 (.tmp 11) (.tmp 38) rfl rfl rfl (vs := entC (r.getD (0, 0))) agg_entry.2 (Blk.new we 46 #[.int .u32 0, .int .u32 0]) (entC_one _) rfl ?_
          intro w6 d6 k6
          have K6 : Keep [] wr w6 := (ke.alloc _).trans k6 (fun y hy hlt => by have := ke.size; simp at hy; omega)
          have HW6 : Hid (w6 = w6) := rfl
          generalize we.heap.size = ge at *
          cases r with
          | none =>
            go_wp2
            go_roundw
            case rel => exact ⟨a + 1, by omega, by go_num, ⟨A', c', by rw [accJ_none HR.out, HL.out], by rw [accJ_none HR.out, HL.out]; exact own_keep0 HOW.out K6, HKP2.out.then K6⟩, HKM.out.then K6⟩
            case measure => simp [intOf]; omega
          | some e =>
            obtain ⟨en, ew⟩ := e
            have HRW : Hid (∀ m, (hm : m < L.length) → ∃ b o, A' = some ⟨b, o, none⟩ ∧ ∀ W, Keep [] w6 W → W.cell? ⟨b, o + m * 2, none⟩ = some (.int .u32 (L[m].1 : Int)) ∧ W.cell? ⟨b, o + m * 2 + 1, none⟩ = some (.int .u32 (L[m].2 : Int))) := fun m hm => entRow_at (Reads.of_own (own_keep0 HOW.out K6)) hm
            have HBX : Hid (∀ W, Keep [] w6 W → W.cell? ⟨ge, 0, none⟩ = some (.int .u32 (en : Int)) ∧ W.cell? ⟨ge, 1, none⟩ = some (.int .u32 (ew : Int))) := fun W hW => ⟨(d6.keep0 hW).cell 0, (d6.keep0 hW).cell 1⟩
            have HK6 := Lib.hid K6
            clear K6 d6 k6 ke
            go_wp2_with fail
            go_loopw [13] (fun v13 wx => ∃ k : Nat, k ≤ L.length ∧ v13 = .int .i64 (k : Int) ∧ Hid (∀ i, (hi : i < L.length) → k ≤ i → en < L[i].1) ∧ Keep [] w6 wx) (fun v13 _ => (intOf v13).toNat)
            case atStart => exact ⟨L.length, Nat.le_refl _, rfl, fun i hi h => absurd h (by omega), Keep.refl _ _⟩
            case round =>
              obtain ⟨k, hk, rfl, HAB, hkx⟩ := hrel
              rcases Nat.eq_zero_or_pos k with hk0 | hkp0
              · subst hk0
                have hF : ∀ W, Keep [] w6 W → W.cell? ⟨ge, 0, none⟩ = some (.int .u32 (en : Int)) ∧ W.cell? ⟨ge, 1, none⟩ = some (.int .u32 (ew : Int)) ∧ True := fun W hW => ⟨(HBX.out W hW).1, (HBX.out W hW).2, trivial⟩
                go_upto_region 12 with fail
                refine wp_region_flow (Keep [] w6) rfl (by kernel_rfl) hkx.drew ?_
                iterate 3 (refine fl_val (v := ?_) (by rfl) ?_ ?_; rotate_left; (intro w' hS; obtain ⟨f0,f1,f2⟩ := hF w' hS; go_simp; with_reducible rfl); simp only [Act.put, List.setIfInBounds_toArray, List.set_cons_zero, List.set_cons_succ])
                iterate 9 (refine fl_off (by rfl) ?_; simp only [Act.put, List.setIfInBounds_toArray, List.set_cons_zero, List.set_cons_succ])
                iterate 1 (refine fl_val (v := ?_) (by rfl) ?_ ?_; rotate_left; (intro w' hS; obtain ⟨f0,f1,f2⟩ := hF w' hS; go_simp; with_reducible rfl); simp only [Act.put, List.setIfInBounds_toArray, List.set_cons_zero, List.set_cons_succ])
                refine fl_nil ?_
                intro w7 hS7
                go_upto_region 14 with fail
                refine wp_region_flow (Keep [] w6) rfl (by kernel_rfl) hS7.drew ?_
                iterate 3 (refine fl_val (v := ?_) (by rfl) ?_ ?_; rotate_left; (intro w' hS; obtain ⟨f0,f1,f2⟩ := hF w' hS; go_simp; with_reducible rfl); simp only [Act.put, List.setIfInBounds_toArray, List.set_cons_zero, List.set_cons_succ])
                iterate 9 (refine fl_off (by rfl) ?_; simp only [Act.put, List.setIfInBounds_toArray, List.set_cons_zero, List.set_cons_succ])
                iterate 1 (refine fl_val (v := ?_) (by rfl) ?_ ?_; rotate_left; (intro w' hS; obtain ⟨f0,f1,f2⟩ := hF w' hS; go_simp; with_reducible rfl); simp only [Act.put, List.setIfInBounds_toArray, List.set_cons_zero, List.set_cons_succ])
                refine fl_nil ?_
                intro w8 hS8
                go_upto_region 15 with fail
                rcases A' with _ | ⟨br, or_, pp⟩
                · have h0 : L = [] ∧ c' = 0 := by
                    rcases HOW.out.2 with ⟨h1, h2⟩ | ⟨_, _, _, h1, _⟩
                    · simp only [Value.slice.injEq, true_and] at h1; exact ⟨List.length_eq_zero_iff.1 h2, h1.2⟩
                    · cases h1
                  have H0 := Lib.hid h0
                  clear h0
                  have hcl : L.length ≤ c' := by rw [H0.out.1]; exact Nat.zero_le _
                  have z5 : (0 : Int) ≤ (c' : Int) := by omega
                  have z6 : (0 : Int) ≤ (0 : Int) := by omega
                  have z7 : (0 : Int) ≤ (L.length : Int) := by omega
                  have z2 : ((0 : Nat) : Int) ≤ (L.length : Int) := by omega
                  have z3 : (0 : Int) ≤ ((0 : Nat) : Int) := by omega
                  have z4 : (L.length : Int) ≤ (c' : Int) := by omega
                  have hG : ∀ W, Keep [] w8 W → W.cell? ⟨ge, 0, none⟩ = some (.int .u32 (en : Int)) ∧ W.cell? ⟨ge, 1, none⟩ = some (.int .u32 (ew : Int)) ∧ True := fun W hW => ⟨(HBX.out W (hS8.then hW)).1, (HBX.out W (hS8.then hW)).2, trivial⟩
                  have HS8 := Lib.hid hS8
                  have HRS : Hid (∀ W, Keep [] w8 W → Reads W 2 none L.length (L.flatMap entC)) := fun W hW => Reads.of_own (own_keep0 HOW.out ((HK6.out.then HS8.out).then hW))
                  have hz8 := HLL.out
                  clear hS8 hS7 hkx hF
                  refine ap_begin 11 (Keep [] w8) rfl (Keep.refl _ _).drew (fun hS hPan => ?_) (fun _ _ d _ _ h => by cases d <;> exact h)
                  (refine ap_val (v := ?_) 1 rfl (by kernel_rfl) (by kernel_rfl) (by kernel_rfl) (by kernel_rfl) (by rfl) hPan ?_ hS ?_; rotate_left; (intro w' hSw; go_simp; try with_reducible rfl); simp only [Act.put, List.setIfInBounds_toArray, List.set_cons_zero, List.set_cons_succ])
                  (refine ap_val (v := ?_) 2 rfl (by kernel_rfl) (by kernel_rfl) (by kernel_rfl) (by kernel_rfl) (by rfl) hPan ?_ hS ?_; rotate_left; (intro w' hSw; go_simp; try with_reducible rfl); simp only [Act.put, List.setIfInBounds_toArray, List.set_cons_zero, List.set_cons_succ])
                  (refine ap_val (v := ?_) 3 rfl (by kernel_rfl) (by kernel_rfl) (by kernel_rfl) (by kernel_rfl) (by rfl) hPan ?_ hS ?_; rotate_left; (intro w' hSw; go_simp; try with_reducible rfl); simp only [Act.put, List.setIfInBounds_toArray, List.set_cons_zero, List.set_cons_succ])
                  (refine ap_val (v := ?_) 5 rfl (by kernel_rfl) (by kernel_rfl) (by kernel_rfl) (by kernel_rfl) (by rfl) hPan ?_ hS ?_; rotate_left; (intro w' hSw; obtain ⟨f1,f2,f3⟩ := hG w' hSw; go_simp; try with_reducible rfl); simp only [Act.put, List.setIfInBounds_toArray, List.set_cons_zero, List.set_cons_succ])
                  (refine ap_val (v := ?_) 8 rfl (by kernel_rfl) (by kernel_rfl) (by kernel_rfl) (by kernel_rfl) (by rfl) hPan ?_ hS ?_; rotate_left; (intro w' hSw; go_simp; try with_reducible rfl); simp only [Act.put, List.setIfInBounds_toArray, List.set_cons_zero, List.set_cons_succ])
                  (refine ap_val (v := ?_) 9 rfl (by kernel_rfl) (by kernel_rfl) (by kernel_rfl) (by kernel_rfl) (by rfl) hPan ?_ hS ?_; rotate_left; (intro w' hSw; go_simp; try with_reducible rfl); simp only [Act.put, List.setIfInBounds_toArray, List.set_cons_zero, List.set_cons_succ])
                  (refine ap_val (v := ?_) 10 rfl (by kernel_rfl) (by kernel_rfl) (by kernel_rfl) (by kernel_rfl) (by rfl) hPan ?_ hS ?_; rotate_left; (intro w' hSw; go_simp; try with_reducible rfl); simp only [Act.put, List.setIfInBounds_toArray, List.set_cons_zero, List.set_cons_succ])
                  have hwd : w8.heap.size ≤ w8.drew.heap.size := Nat.le_refl _
                  generalize w8.drew = wd at *
                  have HTK : Hid (∀ W, Keep [] w8 W → Reads W 2 none 0 ((L.take 0).flatMap entC)) := fun W hW => ⟨rfl, fun h => absurd h (by omega)⟩
                  have HINS2 : Hid (insE L (en, ew) = L.take 0 ++ (en, ew) :: L.drop 0) := by
                    show _ = _
                    rw [insE_place (k := 0) HSO.out hk (fun i hi h => HAB.out i hi h) (fun h => absurd h (by omega))]
                    rw [if_neg (fun h => absurd h.1 (by omega))]
                  have HDK : Hid (∀ W, Keep [] w8 W → Reads W 2 none L.length ((L.drop 0).flatMap entC)) := fun W hW => HRS.out W hW
                  refine ap_twoJ 0 6 (by kernel_rfl) ?r0 ?r6
                  case r0 =>
                    refine op_run (v := .slice (some ⟨wd.heap.size, 0, none⟩) 0 0) (w' := wd.alloc (.cells #[] 46)) 0 rfl (by rfl) (by go_simp) ?_
                    have O0 : (wd.alloc (.cells #[] 46)).ownsRow w8.heap.size 46 2 (.slice (some ⟨wd.heap.size, 0, none⟩) 0 0) 0 [] := World.ownsRow_lit wd #[] 0 hwd (by decide) rfl
                    have hS0 := hS.alloc (.cells #[] 46)
                    refine ⟨fun _ => hS0, ?_⟩
                    (simp only [Act.put, List.setIfInBounds_toArray, List.set_cons_zero, List.set_cons_succ])
                    have hwe : w8.heap.size ≤ (wd.alloc (.cells #[] 46)).heap.size := hS0.size
                    have hz0 : wd.heap.size < (wd.alloc (.cells #[] 46)).heap.size := by simp
                    generalize wd.alloc (.cells #[] 46) = we at *
                    generalize wd.heap.size = z0 at *
                    refine ap_twoJ 4 6 (by kernel_rfl) ?r04 ?r06
                    case r04 =>
                      refine op_app_readsJ 4 rfl (by rfl) slice_entry rfl O0 rfl (HTK.out we hS0) (flat_one _) (by simp only [maxLen]; omega) (by omega) hwe ?_
                      intro v76 wf O4 k4 e4
                      have hS4' : Keep [] w8 wf := hS0.trans k4 (fun y hy hlt => by have := row_baseJ O0 y hy; omega)
                      refine ⟨fun _ => hS4', ?_⟩
                      (simp only [Act.put, List.setIfInBounds_toArray, List.set_cons_zero, List.set_cons_succ])
                      refine ap_one 6 (by kernel_rfl) ?_
                      refine op_run (v := .slice (some ⟨wf.heap.size, 0, none⟩) 1 1) (w' := wf.alloc (.cells #[.int .u32 (en : Int), .int .u32 (ew : Int)] 46)) 6 rfl (by rfl) (by go_simp) ?_
                      have B6 := Blk.new wf 46 #[.int .u32 (en : Int), .int .u32 (ew : Int)]
                      have hz6 := hS4'.size
                      have hS4 := hS4'.alloc (.cells #[.int .u32 (en : Int), .int .u32 (ew : Int)] 46)
                      replace O4 := own_keep0 O4 ((Keep.refl [] wf).alloc (.cells #[.int .u32 (en : Int), .int .u32 (ew : Int)] 46))
                      refine ⟨fun _ => hS4, ?_⟩
                      (simp only [Act.put, List.setIfInBounds_toArray, List.set_cons_zero, List.set_cons_succ])
                      have C6 : CellsAt (wf.alloc (.cells #[.int .u32 (en : Int), .int .u32 (ew : Int)] 46)) wf.heap.size 0 (entC (en, ew)) := B6.cellsAt
                      generalize wf.alloc (.cells #[.int .u32 (en : Int), .int .u32 (ew : Int)] 46) = wg at *
                      generalize wf.heap.size = g6 at *
                      refine ap_one 7 (by kernel_rfl) ?_
                      refine op_app (us := entC (en, ew)) 7 1 _ _ _ rfl (by rfl) rfl slice_entry O4 rfl rfl C6 rfl (entC_one _) hS4.size (by omega) (by simp only [maxLen]; omega) ?_
                      intro v79 w9 O9 k9 e9
                      have hS9 : Keep [] w8 w9 := hS4.trans k9 (fun y hy hlt => by have := row_baseJ O4 y hy; omega)
                      refine ⟨fun _ => hS9, ?_⟩
                      (simp only [Act.put, List.setIfInBounds_toArray, List.set_cons_zero, List.set_cons_succ])
                      refine ap_one 11 (by kernel_rfl) ?_
                      refine op_app_readsJ 11 rfl (by rfl) slice_entry rfl O9 rfl (HDK.out w9 hS9) (flat_one _) (by simp only [maxLen]; omega) (by omega) hS9.size ?_
                      intro v83 wz Oz kz ez
                      have hSz : Keep [] w8 wz := hS9.trans kz (fun y hy hlt => by have := row_baseJ O9 y hy; omega)
                      refine ⟨fun h => (by cases h), ?_⟩
                      (simp only [Act.put, List.setIfInBounds_toArray, List.set_cons_zero, List.set_cons_succ])
                      refine ap_one 12 (by kernel_rfl) ?_
                      refine op_run (v := v83) (w' := wz) 12 rfl (by rfl) (by go_simp) ?_
                      refine ⟨fun h => (by cases h), ap_done (by kernel_rfl) ?_ _⟩
                      (simp only [Act.put, List.setIfInBounds_toArray, List.set_cons_zero, List.set_cons_succ])
                      have HOZ : Hid (RowAt w wz (accJ (ownW d base) K s (a + 1)) v83) := by
                        show RowAt _ _ _ _
                        rw [accJ_some HR.out, HL.out, HINS2.out]
                        obtain ⟨A9, c9, rfl⟩ := own_shape Oz
                        have hlen : 0 + 0 + 1 + L.length = (L.take 0 ++ (en, ew) :: L.drop 0).length := by simp [Nat.min_eq_left hk]; omega
                        have hfl : [] ++ (L.take 0).flatMap entC ++ entC (en, ew) ++ (L.drop 0).flatMap entC = (L.take 0 ++ (en, ew) :: L.drop 0).flatMap entC := by simp
                        rw [hlen, hfl] at Oz
                        exact ⟨A9, c9, by rw [hlen], own_lower Oz (Nat.le_trans (HKP2.out.then HK6.out |>.size) HS8.out.size), (HKP2.out.then (HK6.out.then HS8.out)).then hSz⟩
                      have HSZ := Lib.hid hSz
                      clear hSz Oz O9 O4 k9 kz hS9 hS4 C6 ez e9 hS hPan
                      go_wp2
                      go_roundw
                      case rel => exact ⟨a + 1, by omega, by go_num, HOZ.out, HKM.out.then ((HK6.out.then HS8.out).then HSZ.out)⟩
                      case measure => simp [intOf]; omega
                    case r06 =>
                      refine op_run (v := .slice (some ⟨we.heap.size, 0, none⟩) 1 1) (w' := we.alloc (.cells #[.int .u32 (en : Int), .int .u32 (ew : Int)] 46)) 6 rfl (by rfl) (by go_simp) ?_
                      have B6 := Blk.new we 46 #[.int .u32 (en : Int), .int .u32 (ew : Int)]
                      have hS5 := hS0.alloc (.cells #[.int .u32 (en : Int), .int .u32 (ew : Int)] 46)
                      have O0' := own_keep0 O0 ((Keep.refl [] we).alloc (.cells #[.int .u32 (en : Int), .int .u32 (ew : Int)] 46))
                      refine ⟨fun _ => hS5, ?_⟩
                      (simp only [Act.put, List.setIfInBounds_toArray, List.set_cons_zero, List.set_cons_succ])
                      have C6' : CellsAt (we.alloc (.cells #[.int .u32 (en : Int), .int .u32 (ew : Int)] 46)) we.heap.size 0 (entC (en, ew)) := B6.cellsAt
                      have hl6 : we.heap.size < (we.alloc (.cells #[.int .u32 (en : Int), .int .u32 (ew : Int)] 46)).heap.size := by simp
                      generalize we.alloc (.cells #[.int .u32 (en : Int), .int .u32 (ew : Int)] 46) = wg at *
                      generalize we.heap.size = g6 at *
                      refine ap_one 4 (by kernel_rfl) ?_
                      refine op_app_readsJ (v := .slice (some ⟨z0, 0, none⟩) 0 0) 4 rfl (by rfl) slice_entry rfl O0' rfl (HTK.out wg hS5) (flat_one _) (by simp only [maxLen]; omega) (by omega) hS5.size ?_
                      intro v76 wf O4 k4 e4
                      have hS4 : Keep [] w8 wf := hS5.trans k4 (fun y hy hlt => by have := row_baseJ O0' y hy; omega)
                      have C6 : CellsAt wf g6 0 (entC (en, ew)) := fun j u hu => (k4.cell (p := ⟨g6, 0 + j, none⟩) hl6 (fun hm => by simp [Value.ownBlock] at hm; omega)).trans (C6' j u hu)
                      refine ⟨fun _ => hS4, ?_⟩
                      (simp only [Act.put, List.setIfInBounds_toArray, List.set_cons_zero, List.set_cons_succ])
                      refine ap_one 7 (by kernel_rfl) ?_
                      refine op_app (us := entC (en, ew)) 7 1 _ _ _ rfl (by rfl) rfl slice_entry O4 rfl rfl C6 rfl (entC_one _) hS4.size (by omega) (by simp only [maxLen]; omega) ?_
                      intro v79 w9 O9 k9 e9
                      have hS9 : Keep [] w8 w9 := hS4.trans k9 (fun y hy hlt => by have := row_baseJ O4 y hy; omega)
                      refine ⟨fun _ => hS9, ?_⟩
                      (simp only [Act.put, List.setIfInBounds_toArray, List.set_cons_zero, List.set_cons_succ])
                      refine ap_one 11 (by kernel_rfl) ?_
                      refine op_app_readsJ 11 rfl (by rfl) slice_entry rfl O9 rfl (HDK.out w9 hS9) (flat_one _) (by simp only [maxLen]; omega) (by omega) hS9.size ?_
                      intro v83 wz Oz kz ez
                      have hSz : Keep [] w8 wz := hS9.trans kz (fun y hy hlt => by have := row_baseJ O9 y hy; omega)
                      refine ⟨fun h => (by cases h), ?_⟩
                      (simp only [Act.put, List.setIfInBounds_toArray, List.set_cons_zero, List.set_cons_succ])
                      refine ap_one 12 (by kernel_rfl) ?_
                      refine op_run (v := v83) (w' := wz) 12 rfl (by rfl) (by go_simp) ?_
                      refine ⟨fun h => (by cases h), ap_done (by kernel_rfl) ?_ _⟩
                      (simp only [Act.put, List.setIfInBounds_toArray, List.set_cons_zero, List.set_cons_succ])
                      have HOZ : Hid (RowAt w wz (accJ (ownW d base) K s (a + 1)) v83) := by
                        show RowAt _ _ _ _
                        rw [accJ_some HR.out, HL.out, HINS2.out]
                        obtain ⟨A9, c9, rfl⟩ := own_shape Oz
                        have hlen : 0 + 0 + 1 + L.length = (L.take 0 ++ (en, ew) :: L.drop 0).length := by simp [Nat.min_eq_left hk]; omega
                        have hfl : [] ++ (L.take 0).flatMap entC ++ entC (en, ew) ++ (L.drop 0).flatMap entC = (L.take 0 ++ (en, ew) :: L.drop 0).flatMap entC := by simp
                        rw [hlen, hfl] at Oz
                        exact ⟨A9, c9, by rw [hlen], own_lower Oz (Nat.le_trans (HKP2.out.then HK6.out |>.size) HS8.out.size), (HKP2.out.then (HK6.out.then HS8.out)).then hSz⟩
                      have HSZ := Lib.hid hSz
                      clear hSz Oz O9 O4 k9 kz hS9 hS4 C6 ez e9 hS hPan
                      go_wp2
                      go_roundw
                      case rel => exact ⟨a + 1, by omega, by go_num, HOZ.out, HKM.out.then ((HK6.out.then HS8.out).then HSZ.out)⟩
                      case measure => simp [intOf]; omega
                  case r6 =>
                    refine op_run (v := .slice (some ⟨wd.heap.size, 0, none⟩) 1 1) (w' := wd.alloc (.cells #[.int .u32 (en : Int), .int .u32 (ew : Int)] 46)) 6 rfl (by rfl) (by go_simp) ?_
                    have B6 := Blk.new wd 46 #[.int .u32 (en : Int), .int .u32 (ew : Int)]
                    have hS6 := hS.alloc (.cells #[.int .u32 (en : Int), .int .u32 (ew : Int)] 46)
                    refine ⟨fun _ => hS6, ?_⟩
                    (simp only [Act.put, List.setIfInBounds_toArray, List.set_cons_zero, List.set_cons_succ])
                    have C60 : CellsAt (wd.alloc (.cells #[.int .u32 (en : Int), .int .u32 (ew : Int)] 46)) wd.heap.size 0 (entC (en, ew)) := B6.cellsAt
                    have hl60 : wd.heap.size < (wd.alloc (.cells #[.int .u32 (en : Int), .int .u32 (ew : Int)] 46)).heap.size := by simp
                    have hw6 : w8.heap.size ≤ (wd.alloc (.cells #[.int .u32 (en : Int), .int .u32 (ew : Int)] 46)).heap.size := hS6.size
                    generalize wd.alloc (.cells #[.int .u32 (en : Int), .int .u32 (ew : Int)] 46) = we at *
                    generalize wd.heap.size = g6 at *
                    refine ap_one 0 (by kernel_rfl) ?_
                    refine op_run (v := .slice (some ⟨we.heap.size, 0, none⟩) 0 0) (w' := we.alloc (.cells #[] 46)) 0 rfl (by rfl) (by go_simp) ?_
                    have O0' : (we.alloc (.cells #[] 46)).ownsRow w8.heap.size 46 2 (.slice (some ⟨we.heap.size, 0, none⟩) 0 0) 0 [] := World.ownsRow_lit we #[] 0 hw6 (by decide) rfl
                    have hS5 := hS6.alloc (.cells #[] 46)
                    have C6' : CellsAt (we.alloc (.cells #[] 46)) g6 0 (entC (en, ew)) := fun j u hu => (((Keep.refl [] we).alloc (.cells #[] 46)).cell (p := ⟨g6, 0 + j, none⟩) hl60 (by simp)).trans (C60 j u hu)
                    have hl6 : g6 < (we.alloc (.cells #[] 46)).heap.size := by simp; omega
                    refine ⟨fun _ => hS5, ?_⟩
                    (simp only [Act.put, List.setIfInBounds_toArray, List.set_cons_zero, List.set_cons_succ])
                    generalize we.alloc (.cells #[] 46) = wg at *
                    generalize we.heap.size = z0 at *
                    refine ap_one 4 (by kernel_rfl) ?_
                    refine op_app_readsJ (v := .slice (some ⟨z0, 0, none⟩) 0 0) 4 rfl (by rfl) slice_entry rfl O0' rfl (HTK.out wg hS5) (flat_one _) (by simp only [maxLen]; omega) (by omega) hS5.size ?_
                    intro v76 wf O4 k4 e4
                    have hS4 : Keep [] w8 wf := hS5.trans k4 (fun y hy hlt => by have := row_baseJ O0' y hy; omega)
                    have C6 : CellsAt wf g6 0 (entC (en, ew)) := fun j u hu => (k4.cell (p := ⟨g6, 0 + j, none⟩) hl6 (fun hm => by simp [Value.ownBlock] at hm; omega)).trans (C6' j u hu)
                    refine ⟨fun _ => hS4, ?_⟩
                    (simp only [Act.put, List.setIfInBounds_toArray, List.set_cons_zero, List.set_cons_succ])
                    refine ap_one 7 (by kernel_rfl) ?_
                    refine op_app (us := entC (en, ew)) 7 1 _ _ _ rfl (by rfl) rfl slice_entry O4 rfl rfl C6 rfl (entC_one _) hS4.size (by omega) (by simp only [maxLen]; omega) ?_
                    intro v79 w9 O9 k9 e9
                    have hS9 : Keep [] w8 w9 := hS4.trans k9 (fun y hy hlt => by have := row_baseJ O4 y hy; omega)
                    refine ⟨fun _ => hS9, ?_⟩
                    (simp only [Act.put, List.setIfInBounds_toArray, List.set_cons_zero, List.set_cons_succ])
                    refine ap_one 11 (by kernel_rfl) ?_
                    refine op_app_readsJ 11 rfl (by rfl) slice_entry rfl O9 rfl (HDK.out w9 hS9) (flat_one _) (by simp only [maxLen]; omega) (by omega) hS9.size ?_
                    intro v83 wz Oz kz ez
                    have hSz : Keep [] w8 wz := hS9.trans kz (fun y hy hlt => by have := row_baseJ O9 y hy; omega)
                    refine ⟨fun h => (by cases h), ?_⟩
                    (simp only [Act.put, List.setIfInBounds_toArray, List.set_cons_zero, List.set_cons_succ])
                    refine ap_one 12 (by kernel_rfl) ?_
                    refine op_run (v := v83) (w' := wz) 12 rfl (by rfl) (by go_simp) ?_
                    refine ⟨fun h => (by cases h), ap_done (by kernel_rfl) ?_ _⟩
                    (simp only [Act.put, List.setIfInBounds_toArray, List.set_cons_zero, List.set_cons_succ])
                    have HOZ : Hid (RowAt w wz (accJ (ownW d base) K s (a + 1)) v83) := by
                      show RowAt _ _ _ _
                      rw [accJ_some HR.out, HL.out, HINS2.out]
                      obtain ⟨A9, c9, rfl⟩ := own_shape Oz
                      have hlen : 0 + 0 + 1 + L.length = (L.take 0 ++ (en, ew) :: L.drop 0).length := by simp [Nat.min_eq_left hk]; omega
                      have hfl : [] ++ (L.take 0).flatMap entC ++ entC (en, ew) ++ (L.drop 0).flatMap entC = (L.take 0 ++ (en, ew) :: L.drop 0).flatMap entC := by simp
                      rw [hlen, hfl] at Oz
                      exact ⟨A9, c9, by rw [hlen], own_lower Oz (Nat.le_trans (HKP2.out.then HK6.out |>.size) HS8.out.size), (HKP2.out.then (HK6.out.then HS8.out)).then hSz⟩
                    have HSZ := Lib.hid hSz
                    clear hSz Oz O9 O4 k9 kz hS9 hS4 C6 ez e9 hS hPan
                    go_wp2
                    go_roundw
                    case rel => exact ⟨a + 1, by omega, by go_num, HOZ.out, HKM.out.then ((HK6.out.then HS8.out).then HSZ.out)⟩
                    case measure => simp [intOf]; omega
                · obtain rfl : pp = none := by
                    rcases HOW.out.2 with ⟨h1, _⟩ | ⟨_, _, _, h1, _⟩
                    · cases h1
                    · cases h1; rfl
                  have hcl : L.length ≤ c' := by
                    rcases HOW.out.2 with ⟨h1, _⟩ | ⟨_, _, _, h1, _, _, h2, _⟩
                    · cases h1
                    · cases h1; exact h2
                  have z5 : (0 : Int) ≤ (c' : Int) := by omega
                  have z6 : (0 : Int) ≤ (0 : Int) := by omega
                  have z7 : (0 : Int) ≤ (L.length : Int) := by omega
                  have z2 : ((0 : Nat) : Int) ≤ (L.length : Int) := by omega
                  have z3 : (0 : Int) ≤ ((0 : Nat) : Int) := by omega
                  have z4 : (L.length : Int) ≤ (c' : Int) := by omega
                  have hG : ∀ W, Keep [] w8 W → W.cell? ⟨ge, 0, none⟩ = some (.int .u32 (en : Int)) ∧ W.cell? ⟨ge, 1, none⟩ = some (.int .u32 (ew : Int)) ∧ True := fun W hW => ⟨(HBX.out W (hS8.then hW)).1, (HBX.out W (hS8.then hW)).2, trivial⟩
                  have HS8 := Lib.hid hS8
                  have HRS : Hid (∀ W, Keep [] w8 W → Reads W 2 (some ⟨br, or_, none⟩) L.length (L.flatMap entC)) := fun W hW => Reads.of_own (own_keep0 HOW.out ((HK6.out.then HS8.out).then hW))
                  have hz8 := HLL.out
                  clear hS8 hS7 hkx hF
                  refine ap_begin 11 (Keep [] w8) rfl (Keep.refl _ _).drew (fun hS hPan => ?_) (fun _ _ d _ _ h => by cases d <;> exact h)
                  (refine ap_val (v := ?_) 1 rfl (by kernel_rfl) (by kernel_rfl) (by kernel_rfl) (by kernel_rfl) (by rfl) hPan ?_ hS ?_; rotate_left; (intro w' hSw; go_simp; try with_reducible rfl); simp only [Act.put, List.setIfInBounds_toArray, List.set_cons_zero, List.set_cons_succ])
                  (refine ap_val (v := ?_) 2 rfl (by kernel_rfl) (by kernel_rfl) (by kernel_rfl) (by kernel_rfl) (by rfl) hPan ?_ hS ?_; rotate_left; (intro w' hSw; go_simp; try with_reducible rfl); simp only [Act.put, List.setIfInBounds_toArray, List.set_cons_zero, List.set_cons_succ])
                  (refine ap_val (v := ?_) 3 rfl (by kernel_rfl) (by kernel_rfl) (by kernel_rfl) (by kernel_rfl) (by rfl) hPan ?_ hS ?_; rotate_left; (intro w' hSw; go_simp; try with_reducible rfl); simp only [Act.put, List.setIfInBounds_toArray, List.set_cons_zero, List.set_cons_succ])
                  (refine ap_val (v := ?_) 5 rfl (by kernel_rfl) (by kernel_rfl) (by kernel_rfl) (by kernel_rfl) (by rfl) hPan ?_ hS ?_; rotate_left; (intro w' hSw; obtain ⟨f1,f2,f3⟩ := hG w' hSw; go_simp; try with_reducible rfl); simp only [Act.put, List.setIfInBounds_toArray, List.set_cons_zero, List.set_cons_succ])
                  (refine ap_val (v := ?_) 8 rfl (by kernel_rfl) (by kernel_rfl) (by kernel_rfl) (by kernel_rfl) (by rfl) hPan ?_ hS ?_; rotate_left; (intro w' hSw; go_simp; try with_reducible rfl); simp only [Act.put, List.setIfInBounds_toArray, List.set_cons_zero, List.set_cons_succ])
                  (refine ap_val (v := ?_) 9 rfl (by kernel_rfl) (by kernel_rfl) (by kernel_rfl) (by kernel_rfl) (by rfl) hPan ?_ hS ?_; rotate_left; (intro w' hSw; go_simp; try with_reducible rfl); simp only [Act.put, List.setIfInBounds_toArray, List.set_cons_zero, List.set_cons_succ])
                  (refine ap_val (v := ?_) 10 rfl (by kernel_rfl) (by kernel_rfl) (by kernel_rfl) (by kernel_rfl) (by rfl) hPan ?_ hS ?_; rotate_left; (intro w' hSw; go_simp; try with_reducible rfl); simp only [Act.put, List.setIfInBounds_toArray, List.set_cons_zero, List.set_cons_succ])
                  have hwd : w8.heap.size ≤ w8.drew.heap.size := Nat.le_refl _
                  generalize w8.drew = wd at *
                  have HTK : Hid (∀ W, Keep [] w8 W → Reads W 2 (some ⟨br, or_, none⟩) 0 ((L.take 0).flatMap entC)) := fun W hW => reads_take (HRS.out W hW) hk
                  have HINS2 : Hid (insE L (en, ew) = L.take 0 ++ (en, ew) :: L.drop 0) := by
                    show _ = _
                    rw [insE_place (k := 0) HSO.out hk (fun i hi h => HAB.out i hi h) (fun h => absurd h (by omega))]
                    rw [if_neg (fun h => absurd h.1 (by omega))]
                  have HDK : Hid (∀ W, Keep [] w8 W → Reads W 2 (some ⟨br, or_, none⟩) L.length ((L.drop 0).flatMap entC)) := fun W hW => HRS.out W hW
                  refine ap_twoJ 0 6 (by kernel_rfl) ?r0 ?r6
                  case r0 =>
                    refine op_run (v := .slice (some ⟨wd.heap.size, 0, none⟩) 0 0) (w' := wd.alloc (.cells #[] 46)) 0 rfl (by rfl) (by go_simp) ?_
                    have O0 : (wd.alloc (.cells #[] 46)).ownsRow w8.heap.size 46 2 (.slice (some ⟨wd.heap.size, 0, none⟩) 0 0) 0 [] := World.ownsRow_lit wd #[] 0 hwd (by decide) rfl
                    have hS0 := hS.alloc (.cells #[] 46)
                    refine ⟨fun _ => hS0, ?_⟩
                    (simp only [Act.put, List.setIfInBounds_toArray, List.set_cons_zero, List.set_cons_succ])
                    have hwe : w8.heap.size ≤ (wd.alloc (.cells #[] 46)).heap.size := hS0.size
                    have hz0 : wd.heap.size < (wd.alloc (.cells #[] 46)).heap.size := by simp
                    generalize wd.alloc (.cells #[] 46) = we at *
                    generalize wd.heap.size = z0 at *
                    refine ap_twoJ 4 6 (by kernel_rfl) ?r04 ?r06
                    case r04 =>
                      refine op_app_readsJ 4 rfl (by rfl) slice_entry rfl O0 rfl (HTK.out we hS0) (flat_one _) (by simp only [maxLen]; omega) (by omega) hwe ?_
                      intro v76 wf O4 k4 e4
                      have hS4' : Keep [] w8 wf := hS0.trans k4 (fun y hy hlt => by have := row_baseJ O0 y hy; omega)
                      refine ⟨fun _ => hS4', ?_⟩
                      (simp only [Act.put, List.setIfInBounds_toArray, List.set_cons_zero, List.set_cons_succ])
                      refine ap_one 6 (by kernel_rfl) ?_
                      refine op_run (v := .slice (some ⟨wf.heap.size, 0, none⟩) 1 1) (w' := wf.alloc (.cells #[.int .u32 (en : Int), .int .u32 (ew : Int)] 46)) 6 rfl (by rfl) (by go_simp) ?_
                      have B6 := Blk.new wf 46 #[.int .u32 (en : Int), .int .u32 (ew : Int)]
                      have hz6 := hS4'.size
                      have hS4 := hS4'.alloc (.cells #[.int .u32 (en : Int), .int .u32 (ew : Int)] 46)
                      replace O4 := own_keep0 O4 ((Keep.refl [] wf).alloc (.cells #[.int .u32 (en : Int), .int .u32 (ew : Int)] 46))
                      refine ⟨fun _ => hS4, ?_⟩
                      (simp only [Act.put, List.setIfInBounds_toArray, List.set_cons_zero, List.set_cons_succ])
                      have C6 : CellsAt (wf.alloc (.cells #[.int .u32 (en : Int), .int .u32 (ew : Int)] 46)) wf.heap.size 0 (entC (en, ew)) := B6.cellsAt
                      generalize wf.alloc (.cells #[.int .u32 (en : Int), .int .u32 (ew : Int)] 46) = wg at *
                      generalize wf.heap.size = g6 at *
                      refine ap_one 7 (by kernel_rfl) ?_
                      refine op_app (us := entC (en, ew)) 7 1 _ _ _ rfl (by rfl) rfl slice_entry O4 rfl rfl C6 rfl (entC_one _) hS4.size (by omega) (by simp only [maxLen]; omega) ?_
                      intro v79 w9 O9 k9 e9
                      have hS9 : Keep [] w8 w9 := hS4.trans k9 (fun y hy hlt => by have := row_baseJ O4 y hy; omega)
                      refine ⟨fun _ => hS9, ?_⟩
                      (simp only [Act.put, List.setIfInBounds_toArray, List.set_cons_zero, List.set_cons_succ])
                      refine ap_one 11 (by kernel_rfl) ?_
                      refine op_app_readsJ 11 rfl (by rfl) slice_entry rfl O9 rfl (HDK.out w9 hS9) (flat_one _) (by simp only [maxLen]; omega) (by omega) hS9.size ?_
                      intro v83 wz Oz kz ez
                      have hSz : Keep [] w8 wz := hS9.trans kz (fun y hy hlt => by have := row_baseJ O9 y hy; omega)
                      refine ⟨fun h => (by cases h), ?_⟩
                      (simp only [Act.put, List.setIfInBounds_toArray, List.set_cons_zero, List.set_cons_succ])
                      refine ap_one 12 (by kernel_rfl) ?_
                      refine op_run (v := v83) (w' := wz) 12 rfl (by rfl) (by go_simp) ?_
                      refine ⟨fun h => (by cases h), ap_done (by kernel_rfl) ?_ _⟩
                      (simp only [Act.put, List.setIfInBounds_toArray, List.set_cons_zero, List.set_cons_succ])
                      have HOZ : Hid (RowAt w wz (accJ (ownW d base) K s (a + 1)) v83) := by
                        show RowAt _ _ _ _
                        rw [accJ_some HR.out, HL.out, HINS2.out]
                        obtain ⟨A9, c9, rfl⟩ := own_shape Oz
                        have hlen : 0 + 0 + 1 + L.length = (L.take 0 ++ (en, ew) :: L.drop 0).length := by simp [Nat.min_eq_left hk]; omega
                        have hfl : [] ++ (L.take 0).flatMap entC ++ entC (en, ew) ++ (L.drop 0).flatMap entC = (L.take 0 ++ (en, ew) :: L.drop 0).flatMap entC := by simp
                        rw [hlen, hfl] at Oz
                        exact ⟨A9, c9, by rw [hlen], own_lower Oz (Nat.le_trans (HKP2.out.then HK6.out |>.size) HS8.out.size), (HKP2.out.then (HK6.out.then HS8.out)).then hSz⟩
                      have HSZ := Lib.hid hSz
                      clear hSz Oz O9 O4 k9 kz hS9 hS4 C6 ez e9 hS hPan
                      go_wp2
                      go_roundw
                      case rel => exact ⟨a + 1, by omega, by go_num, HOZ.out, HKM.out.then ((HK6.out.then HS8.out).then HSZ.out)⟩
                      case measure => simp [intOf]; omega
                    case r06 =>
                      refine op_run (v := .slice (some ⟨we.heap.size, 0, none⟩) 1 1) (w' := we.alloc (.cells #[.int .u32 (en : Int), .int .u32 (ew : Int)] 46)) 6 rfl (by rfl) (by go_simp) ?_
                      have B6 := Blk.new we 46 #[.int .u32 (en : Int), .int .u32 (ew : Int)]
                      have hS5 := hS0.alloc (.cells #[.int .u32 (en : Int), .int .u32 (ew : Int)] 46)
                      have O0' := own_keep0 O0 ((Keep.refl [] we).alloc (.cells #[.int .u32 (en : Int), .int .u32 (ew : Int)] 46))
                      refine ⟨fun _ => hS5, ?_⟩
                      (simp only [Act.put, List.setIfInBounds_toArray, List.set_cons_zero, List.set_cons_succ])
                      have C6' : CellsAt (we.alloc (.cells #[.int .u32 (en : Int), .int .u32 (ew : Int)] 46)) we.heap.size 0 (entC (en, ew)) := B6.cellsAt
                      have hl6 : we.heap.size < (we.alloc (.cells #[.int .u32 (en : Int), .int .u32 (ew : Int)] 46)).heap.size := by simp
                      generalize we.alloc (.cells #[.int .u32 (en : Int), .int .u32 (ew : Int)] 46) = wg at *
                      generalize we.heap.size = g6 at *
                      refine ap_one 4 (by kernel_rfl) ?_
                      refine op_app_readsJ (v := .slice (some ⟨z0, 0, none⟩) 0 0) 4 rfl (by rfl) slice_entry rfl O0' rfl (HTK.out wg hS5) (flat_one _) (by simp only [maxLen]; omega) (by omega) hS5.size ?_
                      intro v76 wf O4 k4 e4
                      have hS4 : Keep [] w8 wf := hS5.trans k4 (fun y hy hlt => by have := row_baseJ O0' y hy; omega)
                      have C6 : CellsAt wf g6 0 (entC (en, ew)) := fun j u hu => (k4.cell (p := ⟨g6, 0 + j, none⟩) hl6 (fun hm => by simp [Value.ownBlock] at hm; omega)).trans (C6' j u hu)
                      refine ⟨fun _ => hS4, ?_⟩
                      (simp only [Act.put, List.setIfInBounds_toArray, List.set_cons_zero, List.set_cons_succ])
                      refine ap_one 7 (by kernel_rfl) ?_
                      refine op_app (us := entC (en, ew)) 7 1 _ _ _ rfl (by rfl) rfl slice_entry O4 rfl rfl C6 rfl (entC_one _) hS4.size (by omega) (by simp only [maxLen]; omega) ?_
                      intro v79 w9 O9 k9 e9
                      have hS9 : Keep [] w8 w9 := hS4.trans k9 (fun y hy hlt => by have := row_baseJ O4 y hy; omega)
                      refine ⟨fun _ => hS9, ?_⟩
                      (simp only [Act.put, List.setIfInBounds_toArray, List.set_cons_zero, List.set_cons_succ])
                      refine ap_one 11 (by kernel_rfl) ?_
                      refine op_app_readsJ 11 rfl (by rfl) slice_entry rfl O9 rfl (HDK.out w9 hS9) (flat_one _) (by simp only [maxLen]; omega) (by omega) hS9.size ?_
                      intro v83 wz Oz kz ez
                      have hSz : Keep [] w8 wz := hS9.trans kz (fun y hy hlt => by have := row_baseJ O9 y hy; omega)
                      refine ⟨fun h => (by cases h), ?_⟩
                      (simp only [Act.put, List.setIfInBounds_toArray, List.set_cons_zero, List.set_cons_succ])
                      refine ap_one 12 (by kernel_rfl) ?_
                      refine op_run (v := v83) (w' := wz) 12 rfl (by rfl) (by go_simp) ?_
                      refine ⟨fun h => (by cases h), ap_done (by kernel_rfl) ?_ _⟩
                      (simp only [Act.put, List.setIfInBounds_toArray, List.set_cons_zero, List.set_cons_succ])
                      have HOZ : Hid (RowAt w wz (accJ (ownW d base) K s (a + 1)) v83) := by
                        show RowAt _ _ _ _
                        rw [accJ_some HR.out, HL.out, HINS2.out]
                        obtain ⟨A9, c9, rfl⟩ := own_shape Oz
                        have hlen : 0 + 0 + 1 + L.length = (L.take 0 ++ (en, ew) :: L.drop 0).length := by simp [Nat.min_eq_left hk]; omega
                        have hfl : [] ++ (L.take 0).flatMap entC ++ entC (en, ew) ++ (L.drop 0).flatMap entC = (L.take 0 ++ (en, ew) :: L.drop 0).flatMap entC := by simp
                        rw [hlen, hfl] at Oz
                        exact ⟨A9, c9, by rw [hlen], own_lower Oz (Nat.le_trans (HKP2.out.then HK6.out |>.size) HS8.out.size), (HKP2.out.then (HK6.out.then HS8.out)).then hSz⟩
                      have HSZ := Lib.hid hSz
                      clear hSz Oz O9 O4 k9 kz hS9 hS4 C6 ez e9 hS hPan
                      go_wp2
                      go_roundw
                      case rel => exact ⟨a + 1, by omega, by go_num, HOZ.out, HKM.out.then ((HK6.out.then HS8.out).then HSZ.out)⟩
                      case measure => simp [intOf]; omega
                  case r6 =>
                    refine op_run (v := .slice (some ⟨wd.heap.size, 0, none⟩) 1 1) (w' := wd.alloc (.cells #[.int .u32 (en : Int), .int .u32 (ew : Int)] 46)) 6 rfl (by rfl) (by go_simp) ?_
                    have B6 := Blk.new wd 46 #[.int .u32 (en : Int), .int .u32 (ew : Int)]
                    have hS6 := hS.alloc (.cells #[.int .u32 (en : Int), .int .u32 (ew : Int)] 46)
                    refine ⟨fun _ => hS6, ?_⟩
                    (simp only [Act.put, List.setIfInBounds_toArray, List.set_cons_zero, List.set_cons_succ])
                    have C60 : CellsAt (wd.alloc (.cells #[.int .u32 (en : Int), .int .u32 (ew : Int)] 46)) wd.heap.size 0 (entC (en, ew)) := B6.cellsAt
                    have hl60 : wd.heap.size < (wd.alloc (.cells #[.int .u32 (en : Int), .int .u32 (ew : Int)] 46)).heap.size := by simp
                    have hw6 : w8.heap.size ≤ (wd.alloc (.cells #[.int .u32 (en : Int), .int .u32 (ew : Int)] 46)).heap.size := hS6.size
                    generalize wd.alloc (.cells #[.int .u32 (en : Int), .int .u32 (ew : Int)] 46) = we at *
                    generalize wd.heap.size = g6 at *
                    refine ap_one 0 (by kernel_rfl) ?_
                    refine op_run (v := .slice (some ⟨we.heap.size, 0, none⟩) 0 0) (w' := we.alloc (.cells #[] 46)) 0 rfl (by rfl) (by go_simp) ?_
                    have O0' : (we.alloc (.cells #[] 46)).ownsRow w8.heap.size 46 2 (.slice (some ⟨we.heap.size, 0, none⟩) 0 0) 0 [] := World.ownsRow_lit we #[] 0 hw6 (by decide) rfl
                    have hS5 := hS6.alloc (.cells #[] 46)
                    have C6' : CellsAt (we.alloc (.cells #[] 46)) g6 0 (entC (en, ew)) := fun j u hu => (((Keep.refl [] we).alloc (.cells #[] 46)).cell (p := ⟨g6, 0 + j, none⟩) hl60 (by simp)).trans (C60 j u hu)
                    have hl6 : g6 < (we.alloc (.cells #[] 46)).heap.size := by simp; omega
                    refine ⟨fun _ => hS5, ?_⟩
                    (simp only [Act.put, List.setIfInBounds_toArray, List.set_cons_zero, List.set_cons_succ])
                    generalize we.alloc (.cells #[] 46) = wg at *
                    generalize we.heap.size = z0 at *
                    refine ap_one 4 (by kernel_rfl) ?_
                    refine op_app_readsJ (v := .slice (some ⟨z0, 0, none⟩) 0 0) 4 rfl (by rfl) slice_entry rfl O0' rfl (HTK.out wg hS5) (flat_one _) (by simp only [maxLen]; omega) (by omega) hS5.size ?_
                    intro v76 wf O4 k4 e4
                    have hS4 : Keep [] w8 wf := hS5.trans k4 (fun y hy hlt => by have := row_baseJ O0' y hy; omega)
                    have C6 : CellsAt wf g6 0 (entC (en, ew)) := fun j u hu => (k4.cell (p := ⟨g6, 0 + j, none⟩) hl6 (fun hm => by simp [Value.ownBlock] at hm; omega)).trans (C6' j u hu)
                    refine ⟨fun _ => hS4, ?_⟩
                    (simp only [Act.put, List.setIfInBounds_toArray, List.set_cons_zero, List.set_cons_succ])
                    refine ap_one 7 (by kernel_rfl) ?_
                    refine op_app (us := entC (en, ew)) 7 1 _ _ _ rfl (by rfl) rfl slice_entry O4 rfl rfl C6 rfl (entC_one _) hS4.size (by omega) (by simp only [maxLen]; omega) ?_
                    intro v79 w9 O9 k9 e9
                    have hS9 : Keep [] w8 w9 := hS4.trans k9 (fun y hy hlt => by have := row_baseJ O4 y hy; omega)
                    refine ⟨fun _ => hS9, ?_⟩
                    (simp only [Act.put, List.setIfInBounds_toArray, List.set_cons_zero, List.set_cons_succ])
                    refine ap_one 11 (by kernel_rfl) ?_
                    refine op_app_readsJ 11 rfl (by rfl) slice_entry rfl O9 rfl (HDK.out w9 hS9) (flat_one _) (by simp only [maxLen]; omega) (by omega) hS9.size ?_
                    intro v83 wz Oz kz ez
                    have hSz : Keep [] w8 wz := hS9.trans kz (fun y hy hlt => by have := row_baseJ O9 y hy; omega)
                    refine ⟨fun h => (by cases h), ?_⟩
                    (simp only [Act.put, List.setIfInBounds_toArray, List.set_cons_zero, List.set_cons_succ])
                    refine ap_one 12 (by kernel_rfl) ?_
                    refine op_run (v := v83) (w' := wz) 12 rfl (by rfl) (by go_simp) ?_
                    refine ⟨fun h => (by cases h), ap_done (by kernel_rfl) ?_ _⟩
                    (simp only [Act.put, List.setIfInBounds_toArray, List.set_cons_zero, List.set_cons_succ])
                    have HOZ : Hid (RowAt w wz (accJ (ownW d base) K s (a + 1)) v83) := by
                      show RowAt _ _ _ _
                      rw [accJ_some HR.out, HL.out, HINS2.out]
                      obtain ⟨A9, c9, rfl⟩ := own_shape Oz
                      have hlen : 0 + 0 + 1 + L.length = (L.take 0 ++ (en, ew) :: L.drop 0).length := by simp [Nat.min_eq_left hk]; omega
                      have hfl : [] ++ (L.take 0).flatMap entC ++ entC (en, ew) ++ (L.drop 0).flatMap entC = (L.take 0 ++ (en, ew) :: L.drop 0).flatMap entC := by simp
                      rw [hlen, hfl] at Oz
                      exact ⟨A9, c9, by rw [hlen], own_lower Oz (Nat.le_trans (HKP2.out.then HK6.out |>.size) HS8.out.size), (HKP2.out.then (HK6.out.then HS8.out)).then hSz⟩
                    have HSZ := Lib.hid hSz
                    clear hSz Oz O9 O4 k9 kz hS9 hS4 C6 ez e9 hS hPan
                    go_wp2
                    go_roundw
                    case rel => exact ⟨a + 1, by omega, by go_num, HOZ.out, HKM.out.then ((HK6.out.then HS8.out).then HSZ.out)⟩
                    case measure => simp [intOf]; omega

              · obtain ⟨m, rfl⟩ : ∃ m, k = m + 1 := ⟨k - 1, by omega⟩
                obtain ⟨br, or_, rfl, hrow⟩ := HRW.out m (by omega)
                have hwk : IntKind.i64.wrap (((m + 1 : Nat) : Int) - 1) = (m : Int) := by rw [show ((m + 1 : Nat) : Int) - 1 = (m : Int) by omega]; exact IntWalk.i64_in _ (by have := HLL.out; omega)
                have hwm : IntKind.i64.wrap (m : Int) = (m : Int) := IntWalk.i64_in _ (by have := HLL.out; omega)
                have t0 : decide ((0 : Int) < ((m + 1 : Nat) : Int)) = true := decide_eq_true (by omega)
                have t1 : (0 : Int) ≤ (m : Int) := by omega
                have t2 : (m : Int) < (L.length : Int) := by omega
                obtain ⟨z, hz⟩ : ∃ z, L[m] = z := ⟨_, rfl⟩
                have HZ : Hid (L[m] = z) := hz
                rw [hz] at hrow
                clear hz
                have hF : ∀ W, Keep [] w6 W → W.cell? ⟨ge, 0, none⟩ = some (.int .u32 (en : Int)) ∧ W.cell? ⟨br, or_ + m * 2, none⟩ = some (.int .u32 (z.1 : Int)) ∧ True := fun W hW => ⟨(HBX.out W hW).1, (hrow W hW).1, trivial⟩
                by_cases hgt : en < z.1
                · have y0 : decide ((en : Int) < (z.1 : Int)) = true := decide_eq_true (by omega)
                  have y1 := eq_true hgt
                  have HAB2 : Hid (∀ i, (hi : i < L.length) → m ≤ i → en < L[i].1) := fun i hi h => by
                    rcases Nat.eq_or_lt_of_le h with h | h
                    · subst h; rw [HZ.out]; exact hgt
                    · exact HAB.out i hi h
                  clear hgt
                  go_upto_region 12 with fail
                  refine wp_region_flow (Keep [] w6) rfl (by kernel_rfl) hkx.drew ?_
                  iterate 13 (refine fl_val (v := ?_) (by rfl) ?_ ?_; rotate_left; (intro w' hS; obtain ⟨f0,f1,f2⟩ := hF w' hS; go_simp; with_reducible rfl); simp only [Act.put, List.setIfInBounds_toArray, List.set_cons_zero, List.set_cons_succ])
                  refine fl_nil ?_
                  intro w7 hS7
                  go_wp2
                  go_roundw
                  case rel => exact ⟨m, by omega, by go_num, HAB2, hS7⟩
                  case measure => simp [intOf]
                · have y0 : decide ((en : Int) < (z.1 : Int)) = false := decide_eq_false (by omega)
                  have y1 := eq_false hgt
                  go_upto_region 12 with fail
                  refine wp_region_flow (Keep [] w6) rfl (by kernel_rfl) hkx.drew ?_
                  iterate 13 (refine fl_val (v := ?_) (by rfl) ?_ ?_; rotate_left; (intro w' hS; obtain ⟨f0,f1,f2⟩ := hF w' hS; go_simp; with_reducible rfl); simp only [Act.put, List.setIfInBounds_toArray, List.set_cons_zero, List.set_cons_succ])
                  refine fl_nil ?_
                  intro w7 hS7
                  by_cases heq : z.1 = en
                  · have y2 : ((z.1 : Int) == (en : Int)) = true := by rw [beq_iff_eq]; omega
                    have HINS : Hid (insE L (en, ew) = L) := by
                      show _ = _
                      rw [insE_place (k := m + 1) HSO.out hk (fun i hi h => HAB.out i hi h) (fun h => by show L[m + 1 - 1].1 ≤ en; simp only [Nat.add_sub_cancel]; rw [HZ.out]; omega)]
                      rw [if_pos ⟨by omega, by simp only [Nat.add_sub_cancel]; rw [HZ.out]; exact heq⟩]
                    go_upto_region 14 with fail
                    refine wp_region_flow (Keep [] w6) rfl (by kernel_rfl) hS7.drew ?_
                    iterate 13 (refine fl_val (v := ?_) (by rfl) ?_ ?_; rotate_left; (intro w' hS; obtain ⟨f0,f1,f2⟩ := hF w' hS; go_simp; with_reducible rfl); simp only [Act.put, List.setIfInBounds_toArray, List.set_cons_zero, List.set_cons_succ])
                    refine fl_nil ?_
                    intro w8 hS8
                    go_wp2
                    go_roundw
                    case rel => exact ⟨a + 1, by omega, by go_num, ⟨_, c', by rw [accJ_some HR.out, HL.out, HINS.out], by rw [accJ_some HR.out, HL.out, HINS.out]; exact own_keep0 HOW.out (HK6.out.then hS8), HKP2.out.then (HK6.out.then hS8)⟩, HKM.out.then (HK6.out.then hS8)⟩
                    case measure => simp [intOf]; omega
                  · have y2 : ((z.1 : Int) == (en : Int)) = false := by rw [beq_eq_false_iff_ne]; omega
                    go_upto_region 14 with fail
                    refine wp_region_flow (Keep [] w6) rfl (by kernel_rfl) hS7.drew ?_
                    iterate 13 (refine fl_val (v := ?_) (by rfl) ?_ ?_; rotate_left; (intro w' hS; obtain ⟨f0,f1,f2⟩ := hF w' hS; go_simp; with_reducible rfl); simp only [Act.put, List.setIfInBounds_toArray, List.set_cons_zero, List.set_cons_succ])
                    refine fl_nil ?_
                    intro w8 hS8
                    go_upto_region 15 with fail
                    have hcl : L.length ≤ c' := by
                      rcases HOW.out.2 with ⟨h1, _⟩ | ⟨_, _, _, h1, _, _, h2, _⟩
                      · cases h1
                      · cases h1; exact h2
                    have z5 : (m : Int) + 1 ≤ (c' : Int) := by omega
                    have z6 : (0 : Int) ≤ (m : Int) + 1 := by omega
                    have z7 : (m : Int) + 1 ≤ (L.length : Int) := by omega
                    have z2 : ((m + 1 : Nat) : Int) ≤ (L.length : Int) := by omega
                    have z3 : (0 : Int) ≤ ((m + 1 : Nat) : Int) := by omega
                    have z4 : (L.length : Int) ≤ (c' : Int) := by omega
                    have hG : ∀ W, Keep [] w8 W → W.cell? ⟨ge, 0, none⟩ = some (.int .u32 (en : Int)) ∧ W.cell? ⟨ge, 1, none⟩ = some (.int .u32 (ew : Int)) ∧ True := fun W hW => ⟨(HBX.out W (hS8.then hW)).1, (HBX.out W (hS8.then hW)).2, trivial⟩
                    have HS8 := Lib.hid hS8
                    have HRS : Hid (∀ W, Keep [] w8 W → Reads W 2 (some ⟨br, or_, none⟩) L.length (L.flatMap entC)) := fun W hW => Reads.of_own (own_keep0 HOW.out ((HK6.out.then HS8.out).then hW))
                    have hz8 := HLL.out
                    clear hS8 hS7 hkx hF
                    refine ap_begin 11 (Keep [] w8) rfl (Keep.refl _ _).drew (fun hS hPan => ?_) (fun _ _ d _ _ h => by cases d <;> exact h)
                    (refine ap_val (v := ?_) 1 rfl (by kernel_rfl) (by kernel_rfl) (by kernel_rfl) (by kernel_rfl) (by rfl) hPan ?_ hS ?_; rotate_left; (intro w' hSw; go_simp; try with_reducible rfl); simp only [Act.put, List.setIfInBounds_toArray, List.set_cons_zero, List.set_cons_succ])
                    (refine ap_val (v := ?_) 2 rfl (by kernel_rfl) (by kernel_rfl) (by kernel_rfl) (by kernel_rfl) (by rfl) hPan ?_ hS ?_; rotate_left; (intro w' hSw; go_simp; try with_reducible rfl); simp only [Act.put, List.setIfInBounds_toArray, List.set_cons_zero, List.set_cons_succ])
                    (refine ap_val (v := ?_) 3 rfl (by kernel_rfl) (by kernel_rfl) (by kernel_rfl) (by kernel_rfl) (by rfl) hPan ?_ hS ?_; rotate_left; (intro w' hSw; go_simp; try with_reducible rfl); simp only [Act.put, List.setIfInBounds_toArray, List.set_cons_zero, List.set_cons_succ])
                    (refine ap_val (v := ?_) 5 rfl (by kernel_rfl) (by kernel_rfl) (by kernel_rfl) (by kernel_rfl) (by rfl) hPan ?_ hS ?_; rotate_left; (intro w' hSw; obtain ⟨f1,f2,f3⟩ := hG w' hSw; go_simp; try with_reducible rfl); simp only [Act.put, List.setIfInBounds_toArray, List.set_cons_zero, List.set_cons_succ])
                    (refine ap_val (v := ?_) 8 rfl (by kernel_rfl) (by kernel_rfl) (by kernel_rfl) (by kernel_rfl) (by rfl) hPan ?_ hS ?_; rotate_left; (intro w' hSw; go_simp; try with_reducible rfl); simp only [Act.put, List.setIfInBounds_toArray, List.set_cons_zero, List.set_cons_succ])
                    (refine ap_val (v := ?_) 9 rfl (by kernel_rfl) (by kernel_rfl) (by kernel_rfl) (by kernel_rfl) (by rfl) hPan ?_ hS ?_; rotate_left; (intro w' hSw; go_simp; try with_reducible rfl); simp only [Act.put, List.setIfInBounds_toArray, List.set_cons_zero, List.set_cons_succ])
                    (refine ap_val (v := ?_) 10 rfl (by kernel_rfl) (by kernel_rfl) (by kernel_rfl) (by kernel_rfl) (by rfl) hPan ?_ hS ?_; rotate_left; (intro w' hSw; go_simp; try with_reducible rfl); simp only [Act.put, List.setIfInBounds_toArray, List.set_cons_zero, List.set_cons_succ])
                    have hwd : w8.heap.size ≤ w8.drew.heap.size := Nat.le_refl _
                    generalize w8.drew = wd at *
                    have HTK : Hid (∀ W, Keep [] w8 W → Reads W 2 (some ⟨br, or_, none⟩) (m + 1) ((L.take (m + 1)).flatMap entC)) := fun W hW => reads_take (HRS.out W hW) hk
                    have HINS2 : Hid (insE L (en, ew) = L.take (m + 1) ++ (en, ew) :: L.drop (m + 1)) := by
                      show _ = _
                      rw [insE_place (k := m + 1) HSO.out hk (fun i hi h => HAB.out i hi h) (fun h => by show L[m + 1 - 1].1 ≤ en; simp only [Nat.add_sub_cancel]; rw [HZ.out]; omega)]
                      rw [if_neg (fun h => heq (by obtain ⟨_, h⟩ := h; simp only [Nat.add_sub_cancel] at h; rw [HZ.out] at h; exact h))]
                    have HDK : Hid (∀ W, Keep [] w8 W → Reads W 2 (if c' = m + 1 then some ⟨br, or_, none⟩ else some ⟨br, or_ + (m + 1) * 2, none⟩) (L.length - (m + 1)) ((L.drop (m + 1)).flatMap entC)) := fun W hW => reads_drop (HRS.out W hW) hk hcl
                    refine ap_twoJ 0 6 (by kernel_rfl) ?r0 ?r6
                    case r0 =>
                      refine op_run (v := .slice (some ⟨wd.heap.size, 0, none⟩) 0 0) (w' := wd.alloc (.cells #[] 46)) 0 rfl (by rfl) (by go_simp) ?_
                      have O0 : (wd.alloc (.cells #[] 46)).ownsRow w8.heap.size 46 2 (.slice (some ⟨wd.heap.size, 0, none⟩) 0 0) 0 [] := World.ownsRow_lit wd #[] 0 hwd (by decide) rfl
                      have hS0 := hS.alloc (.cells #[] 46)
                      refine ⟨fun _ => hS0, ?_⟩
                      (simp only [Act.put, List.setIfInBounds_toArray, List.set_cons_zero, List.set_cons_succ])
                      have hwe : w8.heap.size ≤ (wd.alloc (.cells #[] 46)).heap.size := hS0.size
                      have hz0 : wd.heap.size < (wd.alloc (.cells #[] 46)).heap.size := by simp
                      generalize wd.alloc (.cells #[] 46) = we at *
                      generalize wd.heap.size = z0 at *
                      refine ap_twoJ 4 6 (by kernel_rfl) ?r04 ?r06
                      case r04 =>
                        refine op_app_readsJ 4 rfl (by rfl) slice_entry rfl O0 rfl (HTK.out we hS0) (flat_one _) (by simp only [maxLen]; omega) (by omega) hwe ?_
                        intro v76 wf O4 k4 e4
                        have hS4' : Keep [] w8 wf := hS0.trans k4 (fun y hy hlt => by have := row_baseJ O0 y hy; omega)
                        refine ⟨fun _ => hS4', ?_⟩
                        (simp only [Act.put, List.setIfInBounds_toArray, List.set_cons_zero, List.set_cons_succ])
                        refine ap_one 6 (by kernel_rfl) ?_
                        refine op_run (v := .slice (some ⟨wf.heap.size, 0, none⟩) 1 1) (w' := wf.alloc (.cells #[.int .u32 (en : Int), .int .u32 (ew : Int)] 46)) 6 rfl (by rfl) (by go_simp) ?_
                        have B6 := Blk.new wf 46 #[.int .u32 (en : Int), .int .u32 (ew : Int)]
                        have hz6 := hS4'.size
                        have hS4 := hS4'.alloc (.cells #[.int .u32 (en : Int), .int .u32 (ew : Int)] 46)
                        replace O4 := own_keep0 O4 ((Keep.refl [] wf).alloc (.cells #[.int .u32 (en : Int), .int .u32 (ew : Int)] 46))
                        refine ⟨fun _ => hS4, ?_⟩
                        (simp only [Act.put, List.setIfInBounds_toArray, List.set_cons_zero, List.set_cons_succ])
                        have C6 : CellsAt (wf.alloc (.cells #[.int .u32 (en : Int), .int .u32 (ew : Int)] 46)) wf.heap.size 0 (entC (en, ew)) := B6.cellsAt
                        generalize wf.alloc (.cells #[.int .u32 (en : Int), .int .u32 (ew : Int)] 46) = wg at *
                        generalize wf.heap.size = g6 at *
                        refine ap_one 7 (by kernel_rfl) ?_
                        refine op_app (us := entC (en, ew)) 7 1 _ _ _ rfl (by rfl) rfl slice_entry O4 rfl rfl C6 rfl (entC_one _) hS4.size (by omega) (by simp only [maxLen]; omega) ?_
                        intro v79 w9 O9 k9 e9
                        have hS9 : Keep [] w8 w9 := hS4.trans k9 (fun y hy hlt => by have := row_baseJ O4 y hy; omega)
                        refine ⟨fun _ => hS9, ?_⟩
                        (simp only [Act.put, List.setIfInBounds_toArray, List.set_cons_zero, List.set_cons_succ])
                        refine ap_one 11 (by kernel_rfl) ?_
                        refine op_app_readsJ 11 rfl (by rfl) slice_entry rfl O9 rfl (HDK.out w9 hS9) (flat_one _) (by simp only [maxLen]; omega) (by omega) hS9.size ?_
                        intro v83 wz Oz kz ez
                        have hSz : Keep [] w8 wz := hS9.trans kz (fun y hy hlt => by have := row_baseJ O9 y hy; omega)
                        refine ⟨fun h => (by cases h), ?_⟩
                        (simp only [Act.put, List.setIfInBounds_toArray, List.set_cons_zero, List.set_cons_succ])
                        refine ap_one 12 (by kernel_rfl) ?_
                        refine op_run (v := v83) (w' := wz) 12 rfl (by rfl) (by go_simp) ?_
                        refine ⟨fun h => (by cases h), ap_done (by kernel_rfl) ?_ _⟩
                        (simp only [Act.put, List.setIfInBounds_toArray, List.set_cons_zero, List.set_cons_succ])
                        have HOZ : Hid (RowAt w wz (accJ (ownW d base) K s (a + 1)) v83) := by
                          show RowAt _ _ _ _
                          rw [accJ_some HR.out, HL.out, HINS2.out]
                          obtain ⟨A9, c9, rfl⟩ := own_shape Oz
                          have hlen : 0 + (m + 1) + 1 + (L.length - (m + 1)) = (L.take (m + 1) ++ (en, ew) :: L.drop (m + 1)).length := by simp [Nat.min_eq_left hk]; omega
                          have hfl : [] ++ (L.take (m + 1)).flatMap entC ++ entC (en, ew) ++ (L.drop (m + 1)).flatMap entC = (L.take (m + 1) ++ (en, ew) :: L.drop (m + 1)).flatMap entC := by simp
                          rw [hlen, hfl] at Oz
                          exact ⟨A9, c9, by rw [hlen], own_lower Oz (Nat.le_trans (HKP2.out.then HK6.out |>.size) HS8.out.size), (HKP2.out.then (HK6.out.then HS8.out)).then hSz⟩
                        have HSZ := Lib.hid hSz
                        clear hSz Oz O9 O4 k9 kz hS9 hS4 C6 ez e9 hS hPan
                        go_wp2
                        go_roundw
                        case rel => exact ⟨a + 1, by omega, by go_num, HOZ.out, HKM.out.then ((HK6.out.then HS8.out).then HSZ.out)⟩
                        case measure => simp [intOf]; omega
                      case r06 =>
                        refine op_run (v := .slice (some ⟨we.heap.size, 0, none⟩) 1 1) (w' := we.alloc (.cells #[.int .u32 (en : Int), .int .u32 (ew : Int)] 46)) 6 rfl (by rfl) (by go_simp) ?_
                        have B6 := Blk.new we 46 #[.int .u32 (en : Int), .int .u32 (ew : Int)]
                        have hS5 := hS0.alloc (.cells #[.int .u32 (en : Int), .int .u32 (ew : Int)] 46)
                        have O0' := own_keep0 O0 ((Keep.refl [] we).alloc (.cells #[.int .u32 (en : Int), .int .u32 (ew : Int)] 46))
                        refine ⟨fun _ => hS5, ?_⟩
                        (simp only [Act.put, List.setIfInBounds_toArray, List.set_cons_zero, List.set_cons_succ])
                        have C6' : CellsAt (we.alloc (.cells #[.int .u32 (en : Int), .int .u32 (ew : Int)] 46)) we.heap.size 0 (entC (en, ew)) := B6.cellsAt
                        have hl6 : we.heap.size < (we.alloc (.cells #[.int .u32 (en : Int), .int .u32 (ew : Int)] 46)).heap.size := by simp
                        generalize we.alloc (.cells #[.int .u32 (en : Int), .int .u32 (ew : Int)] 46) = wg at *
                        generalize we.heap.size = g6 at *
                        refine ap_one 4 (by kernel_rfl) ?_
                        refine op_app_readsJ (v := .slice (some ⟨z0, 0, none⟩) 0 0) 4 rfl (by rfl) slice_entry rfl O0' rfl (HTK.out wg hS5) (flat_one _) (by simp only [maxLen]; omega) (by omega) hS5.size ?_
                        intro v76 wf O4 k4 e4
                        have hS4 : Keep [] w8 wf := hS5.trans k4 (fun y hy hlt => by have := row_baseJ O0' y hy; omega)
                        have C6 : CellsAt wf g6 0 (entC (en, ew)) := fun j u hu => (k4.cell (p := ⟨g6, 0 + j, none⟩) hl6 (fun hm => by simp [Value.ownBlock] at hm; omega)).trans (C6' j u hu)
                        refine ⟨fun _ => hS4, ?_⟩
                        (simp only [Act.put, List.setIfInBounds_toArray, List.set_cons_zero, List.set_cons_succ])
                        refine ap_one 7 (by kernel_rfl) ?_
                        refine op_app (us := entC (en, ew)) 7 1 _ _ _ rfl (by rfl) rfl slice_entry O4 rfl rfl C6 rfl (entC_one _) hS4.size (by omega) (by simp only [maxLen]; omega) ?_
                        intro v79 w9 O9 k9 e9
                        have hS9 : Keep [] w8 w9 := hS4.trans k9 (fun y hy hlt => by have := row_baseJ O4 y hy; omega)
                        refine ⟨fun _ => hS9, ?_⟩
                        (simp only [Act.put, List.setIfInBounds_toArray, List.set_cons_zero, List.set_cons_succ])
                        refine ap_one 11 (by kernel_rfl) ?_
                        refine op_app_readsJ 11 rfl (by rfl) slice_entry rfl O9 rfl (HDK.out w9 hS9) (flat_one _) (by simp only [maxLen]; omega) (by omega) hS9.size ?_
                        intro v83 wz Oz kz ez
                        have hSz : Keep [] w8 wz := hS9.trans kz (fun y hy hlt => by have := row_baseJ O9 y hy; omega)
                        refine ⟨fun h => (by cases h), ?_⟩
                        (simp only [Act.put, List.setIfInBounds_toArray, List.set_cons_zero, List.set_cons_succ])
                        refine ap_one 12 (by kernel_rfl) ?_
                        refine op_run (v := v83) (w' := wz) 12 rfl (by rfl) (by go_simp) ?_
                        refine ⟨fun h => (by cases h), ap_done (by kernel_rfl) ?_ _⟩
                        (simp only [Act.put, List.setIfInBounds_toArray, List.set_cons_zero, List.set_cons_succ])
                        have HOZ : Hid (RowAt w wz (accJ (ownW d base) K s (a + 1)) v83) := by
                          show RowAt _ _ _ _
                          rw [accJ_some HR.out, HL.out, HINS2.out]
                          obtain ⟨A9, c9, rfl⟩ := own_shape Oz
                          have hlen : 0 + (m + 1) + 1 + (L.length - (m + 1)) = (L.take (m + 1) ++ (en, ew) :: L.drop (m + 1)).length := by simp [Nat.min_eq_left hk]; omega
                          have hfl : [] ++ (L.take (m + 1)).flatMap entC ++ entC (en, ew) ++ (L.drop (m + 1)).flatMap entC = (L.take (m + 1) ++ (en, ew) :: L.drop (m + 1)).flatMap entC := by simp
                          rw [hlen, hfl] at Oz
                          exact ⟨A9, c9, by rw [hlen], own_lower Oz (Nat.le_trans (HKP2.out.then HK6.out |>.size) HS8.out.size), (HKP2.out.then (HK6.out.then HS8.out)).then hSz⟩
                        have HSZ := Lib.hid hSz
                        clear hSz Oz O9 O4 k9 kz hS9 hS4 C6 ez e9 hS hPan
                        go_wp2
                        go_roundw
                        case rel => exact ⟨a + 1, by omega, by go_num, HOZ.out, HKM.out.then ((HK6.out.then HS8.out).then HSZ.out)⟩
                        case measure => simp [intOf]; omega
                    case r6 =>
                      refine op_run (v := .slice (some ⟨wd.heap.size, 0, none⟩) 1 1) (w' := wd.alloc (.cells #[.int .u32 (en : Int), .int .u32 (ew : Int)] 46)) 6 rfl (by rfl) (by go_simp) ?_
                      have B6 := Blk.new wd 46 #[.int .u32 (en : Int), .int .u32 (ew : Int)]
                      have hS6 := hS.alloc (.cells #[.int .u32 (en : Int), .int .u32 (ew : Int)] 46)
                      refine ⟨fun _ => hS6, ?_⟩
                      (simp only [Act.put, List.setIfInBounds_toArray, List.set_cons_zero, List.set_cons_succ])
                      have C60 : CellsAt (wd.alloc (.cells #[.int .u32 (en : Int), .int .u32 (ew : Int)] 46)) wd.heap.size 0 (entC (en, ew)) := B6.cellsAt
                      have hl60 : wd.heap.size < (wd.alloc (.cells #[.int .u32 (en : Int), .int .u32 (ew : Int)] 46)).heap.size := by simp
                      have hw6 : w8.heap.size ≤ (wd.alloc (.cells #[.int .u32 (en : Int), .int .u32 (ew : Int)] 46)).heap.size := hS6.size
                      generalize wd.alloc (.cells #[.int .u32 (en : Int), .int .u32 (ew : Int)] 46) = we at *
                      generalize wd.heap.size = g6 at *
                      refine ap_one 0 (by kernel_rfl) ?_
                      refine op_run (v := .slice (some ⟨we.heap.size, 0, none⟩) 0 0) (w' := we.alloc (.cells #[] 46)) 0 rfl (by rfl) (by go_simp) ?_
                      have O0' : (we.alloc (.cells #[] 46)).ownsRow w8.heap.size 46 2 (.slice (some ⟨we.heap.size, 0, none⟩) 0 0) 0 [] := World.ownsRow_lit we #[] 0 hw6 (by decide) rfl
                      have hS5 := hS6.alloc (.cells #[] 46)
                      have C6' : CellsAt (we.alloc (.cells #[] 46)) g6 0 (entC (en, ew)) := fun j u hu => (((Keep.refl [] we).alloc (.cells #[] 46)).cell (p := ⟨g6, 0 + j, none⟩) hl60 (by simp)).trans (C60 j u hu)
                      have hl6 : g6 < (we.alloc (.cells #[] 46)).heap.size := by simp; omega
                      refine ⟨fun _ => hS5, ?_⟩
                      (simp only [Act.put, List.setIfInBounds_toArray, List.set_cons_zero, List.set_cons_succ])
                      generalize we.alloc (.cells #[] 46) = wg at *
                      generalize we.heap.size = z0 at *
                      refine ap_one 4 (by kernel_rfl) ?_
                      refine op_app_readsJ (v := .slice (some ⟨z0, 0, none⟩) 0 0) 4 rfl (by rfl) slice_entry rfl O0' rfl (HTK.out wg hS5) (flat_one _) (by simp only [maxLen]; omega) (by omega) hS5.size ?_
                      intro v76 wf O4 k4 e4
                      have hS4 : Keep [] w8 wf := hS5.trans k4 (fun y hy hlt => by have := row_baseJ O0' y hy; omega)
                      have C6 : CellsAt wf g6 0 (entC (en, ew)) := fun j u hu => (k4.cell (p := ⟨g6, 0 + j, none⟩) hl6 (fun hm => by simp [Value.ownBlock] at hm; omega)).trans (C6' j u hu)
                      refine ⟨fun _ => hS4, ?_⟩
                      (simp only [Act.put, List.setIfInBounds_toArray, List.set_cons_zero, List.set_cons_succ])
                      refine ap_one 7 (by kernel_rfl) ?_
                      refine op_app (us := entC (en, ew)) 7 1 _ _ _ rfl (by rfl) rfl slice_entry O4 rfl rfl C6 rfl (entC_one _) hS4.size (by omega) (by simp only [maxLen]; omega) ?_
                      intro v79 w9 O9 k9 e9
                      have hS9 : Keep [] w8 w9 := hS4.trans k9 (fun y hy hlt => by have := row_baseJ O4 y hy; omega)
                      refine ⟨fun _ => hS9, ?_⟩
                      (simp only [Act.put, List.setIfInBounds_toArray, List.set_cons_zero, List.set_cons_succ])
                      refine ap_one 11 (by kernel_rfl) ?_
                      refine op_app_readsJ 11 rfl (by rfl) slice_entry rfl O9 rfl (HDK.out w9 hS9) (flat_one _) (by simp only [maxLen]; omega) (by omega) hS9.size ?_
                      intro v83 wz Oz kz ez
                      have hSz : Keep [] w8 wz := hS9.trans kz (fun y hy hlt => by have := row_baseJ O9 y hy; omega)
                      refine ⟨fun h => (by cases h), ?_⟩
                      (simp only [Act.put, List.setIfInBounds_toArray, List.set_cons_zero, List.set_cons_succ])
                      refine ap_one 12 (by kernel_rfl) ?_
                      refine op_run (v := v83) (w' := wz) 12 rfl (by rfl) (by go_simp) ?_
                      refine ⟨fun h => (by cases h), ap_done (by kernel_rfl) ?_ _⟩
                      (simp only [Act.put, List.setIfInBounds_toArray, List.set_cons_zero, List.set_cons_succ])
                      have HOZ : Hid (RowAt w wz (accJ (ownW d base) K s (a + 1)) v83) := by
                        show RowAt _ _ _ _
                        rw [accJ_some HR.out, HL.out, HINS2.out]
                        obtain ⟨A9, c9, rfl⟩ := own_shape Oz
                        have hlen : 0 + (m + 1) + 1 + (L.length - (m + 1)) = (L.take (m + 1) ++ (en, ew) :: L.drop (m + 1)).length := by simp [Nat.min_eq_left hk]; omega
                        have hfl : [] ++ (L.take (m + 1)).flatMap entC ++ entC (en, ew) ++ (L.drop (m + 1)).flatMap entC = (L.take (m + 1) ++ (en, ew) :: L.drop (m + 1)).flatMap entC := by simp
                        rw [hlen, hfl] at Oz
                        exact ⟨A9, c9, by rw [hlen], own_lower Oz (Nat.le_trans (HKP2.out.then HK6.out |>.size) HS8.out.size), (HKP2.out.then (HK6.out.then HS8.out)).then hSz⟩
                      have HSZ := Lib.hid hSz
                      clear hSz Oz O9 O4 k9 kz hS9 hS4 C6 ez e9 hS hPan
                      go_wp2
                      go_roundw
                      case rel => exact ⟨a + 1, by omega, by go_num, HOZ.out, HKM.out.then ((HK6.out.then HS8.out).then HSZ.out)⟩
                      case measure => simp [intOf]; omega
        · have haK : a = K := by omega
          subst haK
          have q1 : decide (((a * 4 + 4 : Nat) : Int) ≤ (d.nw : Int)) = false := decide_eq_false (by omega)
          have r1 : (a * 4 + 4 ≤ d.nw) = False := eq_false (by omega)
          have hw2 : IntKind.i64.wrap (((a * 4 : Nat) : Int) + 4) = ((a * 4 + 4 : Nat) : Int) := by rw [show ((a * 4 : Nat) : Int) + 4 = ((a * 4 + 4 : Nat) : Int) by omega]; exact IntWalk.i64_in _ (by omega)
          go_wp2
          go_roundw
          case rel => exact ⟨s + 1, by omega, by go_num, A', c', by rw [accJ_next], by rw [accJ_next]; exact hown, hkp⟩
          case measure => simp [intOf]; omega
    · have hsm : s = many := by omega
      subst hsm
      go_wp2
      go_ret
      exact ⟨A, c, rfl, hown, hkp⟩
end Go.Proofs.Yteanpgkonhdbpaa
