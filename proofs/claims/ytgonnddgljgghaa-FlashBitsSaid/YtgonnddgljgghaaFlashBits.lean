/- FlashBits, walked: true, for all sizes and every row of calls. -/
import Derived.Test.YtgonnddgljgghaaFlashPlays
import Derived.Test.YtgonnddgljgghaaFlashBitsLaw
namespace Go.Proofs.Ytgonnddgljgghaa
open Go.RowKit

/-- A field of a struct value, the field of one cell. -/
theorem run_field_agg {P : Program} {t : TypeId} {fs : Array Field} (ht : P.underlying t = some (.struct fs)) {k : Nat} {f : Field} (hf : fs[k]? = some f) {d : TypeDesc} (he : P.underlying f.type = some d) (hd : (match d with | .struct _ | .array _ _ => false | _ => true) = true)
    (hs : (P.info? f.type).map (·.size) = some 1) {cs : Array Value} {v : Value} (hv : cs[f.offset]? = some v) (w : World) : (Instr.field t (.agg cs) k).run P w = .ok v w := by
  cases hq : P.info? f.type with
  | none => simp [hq] at hs
  | some i =>
    have h1 : i.size = 1 := by simpa [hq] using hs
    have hagg : (isAgg f.type).run P w = .ok false w := by
      unfold isAgg
      rw [Sem.run_bind, run_underlying he w]
      cases d <;> simp_all
    simp [Instr.field, asAgg, run_underlying ht, hf, Sem.run_bind, sizeOf, typeInfo, hq, h1, part, hagg, hv]
set_option maxRecDepth 100000 in
theorem field_bits (d : Dev) (A1 A2 : Option Addr) (c1 c2 : Nat) (W : World) : (Instr.field 78 (.agg (refV d A1 A2 c1 c2).toArray) 3).run Try.prog W = .ok (.slice A1 d.bits.length c1) W :=
  run_field_agg Try.underlying78 rfl Try.underlying76 rfl (by kernel_rfl) rfl W
/-- Device and document at one state, apart from the blocks of G. -/
structure BothG (base : Nat) (G : List Nat) (w : World) (g b1 b2 r : Nat) (d : Dev) : Prop where
  dev : DevAt w g b1 b2 d
  val : ∃ A1 A2 c1 c2, Blk w r 78 (refV d A1 A2 c1 c2).toArray ∧ ROwn base (g :: b1 :: b2 :: G) w A1 A2 c1 c2 d
theorem BothG.keep0 {base : Nat} {G : List Nat} {w w' : World} {g b1 b2 r : Nat} {d : Dev} (h : BothG base G w g b1 b2 r d) (k : Keep [] w w') : BothG base G w' g b1 b2 r d := by
  obtain ⟨A1, A2, c1, c2, h1, h2⟩ := h.val
  exact ⟨h.dev.keep k (by simp) (by simp) (by simp), A1, A2, c1, c2, h1.keep0 k, h2.keep0 k⟩

set_option maxRecDepth 100000 in
set_option maxHeartbeats 1000000 in
theorem flashBits_no (s q l : Int) (A : Option Addr) (n c : Nat) (w : World) (hm : n ≤ maxLen) (h : 60 < n ∨ s < 1 ∨ 8 < s ∨ q < 1 ∨ 30 < q) :
    Calls Try.prog 8 #[szV s q l, .slice A n c] w fun e w' => e = .returned (.bool true) ∧ Keep [] w w' := by
  unfold maxLen at hm
  have hc : 60 < n ∨ (n ≤ 60 ∧ s < 1) ∨ (n ≤ 60 ∧ 1 ≤ s ∧ 8 < s) ∨ (n ≤ 60 ∧ 1 ≤ s ∧ s ≤ 8 ∧ q < 1) ∨ (n ≤ 60 ∧ 1 ≤ s ∧ s ≤ 8 ∧ 1 ≤ q ∧ 30 < q) := by omega
  clear h
  rcases hc with h1 | ⟨h1, h2⟩ | ⟨h1, h2, h3⟩ | ⟨h1, h2, h3, h4⟩ | ⟨h1, h2, h3, h4, h5⟩
  all_goals
    go_enter Try.func8, Try.ntmps8
    go_wp2_with fail
    go_ret
    exact ⟨rfl, (Keep.refl _ _).alloc _⟩

set_option maxRecDepth 100000 in
set_option maxHeartbeats 2000000 in
theorem flashBits_yes (s q : Nat) (l : Int) (A : Option Addr) (n c : Nat) (xs : List FOp) (w : World) (hn : n ≤ 60) (hx : xs.length = n) (hr : Reads w 4 A n (fopRow xs)) (hxs : ∀ o ∈ xs, o.w < 4294967296 ∧ o.word ≤ 9223372036854775807)
    (h1 : 1 ≤ s) (h2 : s ≤ 8) (h3 : 1 ≤ q) (h4 : q ≤ 30) :
    Calls Try.prog 8 #[szV s q l, .slice A n c] w fun e w' => e = .returned (.bool true) ∧ Keep [] w w' := by
  have HR : ∀ W, Hid (Calls Try.prog 46 #[.int .i64 s, .int .i64 q, .int .i64 1000] W (RetRNew W (newD s q 1000))) := fun W => rnew_yes s q 1000 W h1 (by omega) h3 (by omega) (by decide)
  have HN : ∀ W, Hid (Calls Try.prog 45 #[.int .i64 s, .int .i64 q, .int .i64 1000] W (RetNew W (newD s q 1000))) := fun W => fnew_yes s q 1000 W h1 (by omega) h3 (by omega) (by decide)
  have HO : Hid ((newD s q 1000).Ok) := newD_ok s q 1000 h1 (by omega) h3 (by omega) (by decide)
  have HX := Lib.hid hx
  clear hx
  go_enter Try.func8, Try.ntmps8
  go_wp2_with fail
  refine (HN _).out.mono ?_
  rintro e w1 ⟨g, b1, b2, rfl, hg, hg1, hg2, hd1, k1⟩
  have HSZ1 := (Blk.new w 71 #[.int .i64 s, .int .i64 q, .int .i64 l]).keep0 k1
  have d0 := HSZ1.cell 0
  have d1 := HSZ1.cell 1
  simp at d0 d1
  have K1 := Lib.hid (((Keep.refl [] w).alloc (.cells #[.int .i64 s, .int .i64 q, .int .i64 l] 71)).then k1)
  have hgw : w.heap.size < g ∧ w.heap.size < b1 ∧ w.heap.size < b2 := by simp at hg hg1 hg2; omega
  have HGW := Lib.hid hgw
  have HD1 := Lib.hid hd1
  have HSZ := Lib.hid HSZ1
  clear hd1 k1 HSZ1 hg hg1 hg2 hgw
  go_wp2_with fail
  refine (HR _).out.mono ?_
  rintro e w2 ⟨A1, A2, c1, c2, rfl, hro, k2⟩
  have HB2 : Hid (ROwn w.heap.size [g, b1, b2] w2 A1 A2 c1 c2 (newD s q 1000)) := ROwn.of_own (w0 := w1) hro (by intro x hx; have e1 := HD1.out.dev.lt; have e2 := HD1.out.bits.lt; have e3 := HD1.out.worn.lt; simp at hx; omega) (K1.out.size)
  have HD2 := Lib.hid (HD1.out.keep k2 (by simp) (by simp) (by simp))
  have HSZ2 := Lib.hid (HSZ.out.keep0 k2)
  have K2 := Lib.hid (K1.out.then k2)
  clear hro k2 HD1 HSZ K1 d0 d1
  go_wp2_with (refine stop_store 78 (.tmp 7) (.tmp 59) rfl ?_)
  constructor
  refine wpList_store_all rfl 78 (.tmp 7) (.tmp 59) rfl rfl rfl (t := 78) (cs := zeroD) (vs := refV (newD s q 1000) A1 A2 c1 c2) agg_ref.2 (Blk.new _ _ _) (refV_one _ _ _ _ _) rfl ?_
  intro w3 e3 k3
  have k23 : Keep [] w2 w3 := ((Keep.refl [] w2).alloc (.cells zeroD 78)).trans k3 (by simp)
  obtain ⟨r7, hr7⟩ : ∃ r7, w2.heap.size = r7 := ⟨_, rfl⟩
  rw [hr7] at e3 ⊢
  have HR7 : Hid (w.heap.size < r7 ∧ g < r7 ∧ b1 < r7 ∧ b2 < r7) := by
    have := K2.out.size
    have e1 := HD2.out.dev.lt
    have e2 := HD2.out.bits.lt
    have e3 := HD2.out.worn.lt
    have e4 := HSZ2.out.lt
    show _ ∧ _
    omega
  have HB3 : Hid (BothG w.heap.size [] w3 g b1 b2 r7 (newD s q 1000)) := ⟨HD2.out.keep k23 (by simp) (by simp) (by simp), A1, A2, c1, c2, e3, HB2.out.keep0 k23⟩
  have HSZ3 := Lib.hid (HSZ2.out.keep0 k23)
  have K3 := Lib.hid (K2.out.then k23)
  clear e3 k3 k23 HB2 HD2 HSZ2 K2 hr7 HR HN
  go_wp2_with fail
  go_loopw [9] (fun vi wr => ∃ k : Nat, k ≤ n ∧ vi = .int .i64 k ∧ BothG w.heap.size [] wr g b1 b2 r7 (plays (newD s q 1000) (xs.take k)) ∧ Blk wr w.heap.size 71 #[.int .i64 s, .int .i64 q, .int .i64 l] ∧ Keep [] w wr) (fun vi _ => n - (intOf vi).toNat)
  case atStart => exact ⟨0, Nat.zero_le _, rfl, HB3.out, HSZ3.out, K3.out⟩
  case round =>
    obtain ⟨k, hk, rfl, hboth, hsz, hkp⟩ := hrel
    obtain ⟨wo, rfl⟩ : ∃ wo : World, wo = wr := ⟨_, rfl⟩
    by_cases hlt : k < n
    · have hkx : k < xs.length := by rw [HX.out]; exact hlt
      obtain ⟨b, ob, rfl, hb, hcs⟩ := hr.addr (by omega)
      have hok : (plays (newD s q 1000) (xs.take k)).Ok := plays_ok HO.out _ (fun o ho => hxs o (List.mem_of_mem_take ho))
      have hsucc : plays (newD s q 1000) (xs.take (k + 1)) = doS (plays (newD s q 1000) (xs.take k)) xs[k] := by rw [List.take_succ_eq_append_getElem hkx, plays_snoc]
      have hox := hxs _ (List.getElem_mem hkx)
      have hop : ∀ j u, (fopCells xs[k])[j]? = some u → w.cell? ⟨b, ob + k * 4 + j, none⟩ = some u := fun j u hu => by
        have hj : j < 4 := by
          have := (List.getElem?_eq_some_iff.1 hu).1
          simpa using this
        have := hcs (k * 4 + j) u (by rw [fopRow_at xs k hkx j hj]; exact hu)
        rwa [← Nat.add_assoc] at this
      have hcb : b < wo.heap.size := Nat.lt_of_lt_of_le hb hkp.size
      have HOP : Hid (∀ W, Keep [] w W → CellsAt W b (ob + k * 4) (fopCells xs[k])) := fun W hW j u hu => by
        have := hop j u hu
        exact (hW.cell (p := ⟨b, ob + k * 4 + j, none⟩) hb (by simp)).trans this
      obtain ⟨p1, p2, _⟩ := plays_dims (newD s q 1000) (xs.take k)
      have P1 : Hid ((plays (newD s q 1000) (xs.take k)).ns = s) := p1
      have P2 : Hid ((plays (newD s q 1000) (xs.take k)).nw = q) := p2
      have HSU := Lib.hid hsucc
      have HOX := Lib.hid hox
      have HOK := Lib.hid hok
      have HSZ := Lib.hid hsz
      have HKP := Lib.hid hkp
      have HBO := Lib.hid hboth
      have hki : (k : Int) < (n : Int) := by omega
      have hki0 : (0 : Int) ≤ (k : Int) := by omega
      clear hop hsucc hox hok hsz hkp hboth hcs p1 p2 HB3 HSZ3 K3
      generalize plays (newD s q 1000) (xs.take k) = d at *
      generalize xs[k] = o at *
      obtain ⟨hdev, A1', A2', c1', c2', hblk, hrow⟩ := HBO.out
      have HBLK := Lib.hid hblk
      have HROW := Lib.hid hrow
      have HDEV := Lib.hid hdev
      have HCP := Lib.hid (rcopy_any A1' A2' c1' c2' d wo hrow.at_ (by have := bits_le d HOK.out; omega) (by rw [HOK.out.wlen]; have := HOK.out.ns2; omega))
      clear hblk hrow hdev
      go_wp2_with (refine wpList_load_agg rfl 78 (.tmp 7) rfl rfl (cs := refV d A1' A2' c1' c2') agg_ref ?_ ?_; exact HBLK.out.cellsAt)
      refine HCP.out.mono ?_
      rintro e w4 ⟨A3, A4, c3, c4, rfl, hro, k4⟩
      have hf3 := field_bits d A3 A4 c3 c4
      go_upto_region 11 with fail
      have HRO4 := Lib.hid hro
      have hqb := hro.bits.form (by have := HOK.out.blen; have h1 := HOK.out.ns1; have h2 := HOK.out.nw1; rw [this]; exact Nat.mul_pos h1 h2)
      obtain ⟨qw, capw, hqv, hqw, hql⟩ := hqb
      injection hqv with hqv _ hcc
      subst hqv
      subst hcc
      have HQ : Hid (wo.heap.size ≤ qw ∧ qw < w4.heap.size) := ⟨hqw, hql⟩
      have BLK4 := Lib.hid (HBLK.out.keep0 k4)
      have DEV4 := Lib.hid (HDEV.out.keep k4 (by simp) (by simp) (by simp))
      have hrow4 := HROW.out.keep0 k4
      have hl1 := HROW.out.bits.lt
      have hl2 := HROW.out.worn.lt
      have ROW4 : Hid (ROwn w.heap.size [g, b1, b2, qw] w4 A1' A2' c1' c2' d) := hrow4.more
        (fun y hy hm => by have h1 := (hl1 y hy).2; have h2 := hrow4.off1 y hy; simp at hm h2; omega)
        (fun y hy hm => by have h1 := (hl2 y hy).2; have h2 := hrow4.off2 y hy; simp at hm h2; omega)
      have SZ4 := Lib.hid (HSZ.out.keep0 k4)
      have K4 := Lib.hid (HKP.out.then k4)
      clear hro hqw hql k4 hrow4 hl1 hl2
      go_cut [10] from 61 to 173 (fun v10 wx => v10 = .slice (some ⟨qw, 0, none⟩) d.bits.length c3 ∧ BothG w.heap.size [qw] wx g b1 b2 r7 (doS d o) ∧ Blk wx w.heap.size 71 #[.int .i64 s, .int .i64 q, .int .i64 l] ∧ Keep [] w wx ∧ wx.ownsRow wo.heap.size 24 1 (.slice (some ⟨qw, 0, none⟩) d.bits.length c3) d.bits.length (wordsV d.bits))
      case first =>
        refine an_start (by kernel_rfl) ?_
        refine an_take 0 rfl (by kernel_rfl) (by kernel_rfl) (by kernel_rfl) (fun _ _ _ h => h) (fun _ => rfl) ?_
        refine an_take 2 rfl (by kernel_rfl) (by kernel_rfl) (by kernel_rfl) (fun _ _ _ h => h) (fun _ => rfl) ?_
        refine an_take 3 rfl (by kernel_rfl) (by kernel_rfl) (by kernel_rfl) (fun _ _ _ h => h) (fun _ => rfl) ?_
        (simp only [Act.put, List.setIfInBounds_toArray, List.set_cons_zero, List.set_cons_succ])
        refine an_take (v := .pointer (some ⟨b, ob + k * 4, none⟩)) 4 rfl (by kernel_rfl) (by kernel_rfl) (by kernel_rfl) (fun _ _ _ h => h) (fun w' => by go_simp) ?_
        (simp only [Act.put, List.setIfInBounds_toArray, List.set_cons_zero, List.set_cons_succ])
        refine an_load2 (cs := refV d A1' A2' c1' c2') (cs' := fopCells o) 1 5 rfl rfl (by kernel_rfl) (by kernel_rfl) (by kernel_rfl) rfl agg_ref BLK4.out.drew.cellsAt rfl agg_fop (HOP.out _ K4.out.drew) rfl rfl ?_ ?_
        all_goals
          (simp only [Act.put, List.setIfInBounds_toArray, List.set_cons_zero, List.set_cons_succ])
          refine an_call (vs := #[.pointer (some ⟨g, 0, none⟩), .agg (refV d A1' A2' c1' c2').toArray, .agg (fopCells o).toArray]) 6 rfl (by kernel_rfl) (by simp only [List.map_toArray, List.map_cons, List.map_nil]; rfl) Try.func48 (by kernel_rfl) (by kernel_rfl)
            (do_any w.heap.size g b1 b2 [qw] A1' A2' c1' c2' d o w4.drew (DEV4.out.keep ((Keep.refl [] w4).drew) (by simp) (by simp) (by simp)) (ROW4.out.keep0 ((Keep.refl [] w4).drew)) HOK.out K4.out.size HOX.out.1 (by intro x hx; simp at hx; subst hx; exact HQ.out.2)) ?_
          rintro e w5 ⟨A5, A6, c5, c6, rfl, hd5, hr5, k5⟩
          refine ⟨_, rfl, ?_⟩
          refine an_take 7 rfl (by kernel_rfl) (by kernel_rfl) (by kernel_rfl) (fun _ _ _ h => h) (fun _ => rfl) ?_
          (simp only [Act.put, List.setIfInBounds_toArray, List.set_cons_zero, List.set_cons_succ])
          refine an_take (v := .agg (refV (doS d o) A5 A6 c5 c6).toArray) 8 rfl (by kernel_rfl) (by kernel_rfl) (by kernel_rfl) (fun _ _ _ h => h) (fun _ => rfl) ?_
          refine an_take (v := .bool true) 9 rfl (by kernel_rfl) (by kernel_rfl) (by kernel_rfl) (fun _ _ _ h => h) (fun _ => rfl) ?_
          (simp only [Act.put, List.setIfInBounds_toArray, List.set_cons_zero, List.set_cons_succ])
          have hg5 : r7 ∉ [g, b1, b2] := by have := HR7.out; simp; omega
          have hq := BLK4.out.drew.keep k5 hg5
          refine an_store (t := 78) (cs := (refV d A1' A2' c1' c2').toArray) (vs := refV (doS d o) A5 A6 c5 c6) 10 rfl (by kernel_rfl) rfl rfl agg_ref.2 hq (refV_one _ _ _ _ _) rfl ?_
          intro w6 d6 k6
          refine wpAny_done (by kernel_rfl) ?_ _
          (simp only [Act.put, List.setIfInBounds_toArray, List.set_cons_zero, List.set_cons_succ])
          have hgw := HGW.out
          have hqk := HQ.out
          have hr7 := HR7.out
          have hwo := HKP.out.size
          have hb6 : BothG w.heap.size [qw] w6 g b1 b2 r7 (doS d o) :=
            ⟨hd5.keep k6 (by simp; omega) (by simp; omega) (by simp; omega), A5, A6, c5, c6, d6, hr5.keepLt k6 (fun y hy hm => hr5.notBlk1 hq (by decide) hy (by simpa using hm)) (fun y hy hm => hr5.notBlk2 hq (by decide) hy (by simpa using hm))⟩
          have hsz6 : Blk w6 w.heap.size 71 #[.int .i64 s, .int .i64 q, .int .i64 l] := (SZ4.out.drew.keep k5 (by simp; omega)).keep k6 (by simp; omega)
          have hk6 : Keep [] w w6 := (K4.out.drew.trans k5 (fun y hy hlt => by simp at hy; omega)).trans k6 (fun y hy hlt => by simp at hy; omega)
          have hqg : qw ∉ [g, b1, b2] := by
            have e1 := HDEV.out.dev.lt
            have e2 := HDEV.out.bits.lt
            have e3 := HDEV.out.worn.lt
            simp
            omega
          have hq7 : qw ≠ r7 := by
            have e1 := HBLK.out.lt
            omega
          have how6 := own_keep (own_keep (own_keep0 HRO4.out.bits ((Keep.refl [] w4).drew)) k5 (fun y hy hm => by simp [Value.ownBlock] at hy; subst hy; exact hqg hm)) k6 (fun y hy hm => by simp [Value.ownBlock] at hy; subst hy; simp at hm; exact hq7 hm)
          have HB6 := Lib.hid hb6
          have HSZ6 := Lib.hid hsz6
          have HK6 := Lib.hid hk6
          have HOW6 := Lib.hid how6
          clear hb6 hsz6 hk6 how6 hd5 hr5 k5 k6 d6 hq hqg hq7 hgw hqk hr7 hwo
          go_wp2_with fail
          go_meet
          exact ⟨rfl, HB6.out, HSZ6.out, HK6.out, HOW6.out⟩
      case rest =>
        obtain ⟨rfl, hb5, hsz5, hk5, how5⟩ := hcut
        have HB5 := Lib.hid hb5
        have HSZ5 := Lib.hid hsz5
        have HK5 := Lib.hid hk5
        have HOW5 := Lib.hid how5
        have hp0 := HOP.out wc hk5 0 (.int .i64 o.kind) rfl
        simp only [Nat.add_zero] at hp0
        have hcb5 : b < wc.heap.size := Nat.lt_of_lt_of_le hb hk5.size
        obtain ⟨m1, m2, m3⟩ := kindM_facts o.kind
        have hdns : (doS d o).ns = s := (doS_dims d o).1.trans P1.out
        have hdnw : (doS d o).nw = q := (doS_dims d o).2.1.trans P2.out
        have hdok : (doS d o).Ok := doS_ok HOK.out o HOX.out.1 HOX.out.2
        have hbits : ∀ σ j, σ < s → j < q → (doS d o).bits.length = d.bits.length ∧
            (kindM o.kind = 4 → d.bits.getD (σ * q + j) 0 ||| (doS d o).bits.getD (σ * q + j) 0 = (doS d o).bits.getD (σ * q + j) 0 ∧ ((σ : Int) ≠ o.sector → (doS d o).bits.getD (σ * q + j) 0 = d.bits.getD (σ * q + j) 0)) ∧
            (kindM o.kind ≠ 4 → (doS d o).bits.getD (σ * q + j) 0 ||| d.bits.getD (σ * q + j) 0 = d.bits.getD (σ * q + j) 0) := fun σ j h1 h2 => by
          have := doS_bits d HOK.out o σ j (by rw [P1.out]; exact h1) (by rw [P2.out]; exact h2)
          rw [P2.out] at this
          exact this
        have HBITS := Lib.hid hbits
        have HDNS := Lib.hid hdns
        have HDNW := Lib.hid hdnw
        have HDOK := Lib.hid hdok
        have HBL : Hid (∀ i, d.bits.getD i 0 < 4294967296 ∧ (doS d o).bits.getD i 0 < 4294967296) := fun i => ⟨bit_lt d HOK.out i, bit_lt _ hdok i⟩
        have HHI : Hid (∀ σ, σ < s → σ * q + q ≤ d.bits.length ∧ d.bits.length ≤ 65536) := fun σ h => by
          have := sect_hi d HOK.out σ (by rw [P1.out]; exact h)
          rw [P2.out] at this
          exact ⟨this, bits_le d HOK.out⟩
        clear hb5 hsz5 hk5 how5 hbits hdns hdnw hdok HRO4 HBLK HROW HDEV HCP BLK4 DEV4 ROW4 SZ4 K4 hf3 HBO
        generalize doS d o = d' at *
        by_cases hk4 : kindM o.kind = 4
        · rw [hk4] at m3
          go_wp2_with fail
          go_loopw [12] (fun vs wm => ∃ σ : Nat, σ ≤ s ∧ vs = .int .i64 σ ∧ BothG w.heap.size [qw] wm g b1 b2 r7 d' ∧ Blk wm w.heap.size 71 #[.int .i64 s, .int .i64 q, .int .i64 l] ∧ Keep [] w wm ∧ wm.ownsRow wo.heap.size 24 1 (.slice (some ⟨qw, 0, none⟩) d.bits.length c3) d.bits.length (wordsV d.bits)) (fun vs _ => s - (intOf vs).toNat)
          case atStart => exact ⟨0, Nat.zero_le _, rfl, HB5.out, HSZ5.out, HK5.out, HOW5.out⟩
          case round =>
            obtain ⟨σ, hσ, rfl, hb5, hsz5, hk5, how5⟩ := hrel
            obtain ⟨wp, rfl⟩ : ∃ wp : World, wp = wr := ⟨_, rfl⟩
            have z0 := hsz5.cell 0
            have z1 := hsz5.cell 1
            simp at z0 z1
            by_cases hls : σ < s
            · obtain ⟨hdv, A5, A6, c5, c6, hblk, hrow⟩ := hb5
              have hss : sectS d' σ = sectL d' σ := by unfold sectS; rw [if_pos (by have := HDNS.out; omega)]; rfl
              have HSL : Hid ((sectS d' σ).length = q) := by show _ = _; rw [hss, sectL_len d' HDOK.out σ (by have := HDNS.out; omega)]; exact HDNW.out
              have HSS := Lib.hid hss
              have HFS := Lib.hid (fsector_any g b1 b2 d' σ wp hdv HDOK.out)
              have hbl := (HBITS.out σ 0 hls (by omega)).1
              have hbp : 0 < d'.bits.length := by have := (HHI.out σ hls).1; omega
              obtain ⟨q5, rfl, _, hq5, hq5F⟩ := hrow.form hbp
              have HBLEN := Lib.hid hbl
              have HDV := Lib.hid hdv
              have HBK := Lib.hid hblk
              have HRW := Lib.hid hrow
              have HSZW := Lib.hid hsz5
              have HKW := Lib.hid hk5
              have HOWW := Lib.hid how5
              clear hss hdv hblk hrow hsz5 hk5 how5 hbl
              go_wp2_with fail
              refine HFS.out.mono ?_
              rintro e w7 ⟨An, cn, rfl, hnow, k7⟩
              rw [HSL.out] at hnow ⊢
              obtain ⟨gn, capn, hnv, hgn, _⟩ := hnow.form (by omega)
              injection hnv with hnv
              subst hnv
              rw [HSS.out] at hnow
              have G1 := Lib.hid (HDV.out.keep k7 (by simp) (by simp) (by simp))
              have G2 := Lib.hid (HBK.out.keep0 k7)
              have G3 := Lib.hid (HRW.out.keep0 k7)
              have g4 := HSZW.out.keep0 k7
              have y1 := g4.cell 1
              simp at y1
              have G4 := Lib.hid g4
              have G5 := Lib.hid (HKW.out.then k7)
              have G6 := Lib.hid (own_keep0 HOWW.out k7)
              have G7 := Lib.hid hnow
              have HNE : Hid (gn ≠ q5 ∧ q5 ≠ g ∧ q5 ≠ b1 ∧ q5 ≠ b2 ∧ q5 ≠ qw) := by
                simp only [List.mem_cons, List.not_mem_nil, or_false, not_or] at hq5F
                exact ⟨by omega, hq5F.1, hq5F.2.1, hq5F.2.2.1, hq5F.2.2.2⟩
              clear g4 hnow k7 HDV HBK HRW HSZW HKW HOWW HFS hq5F
              go_wp2_with fail
              clear y1 z0 z1
              go_loopw [14] (fun vk wi => ∃ j : Nat, j ≤ q ∧ vk = .int .i64 j ∧ DevAt wi g b1 b2 d' ∧ Blk wi r7 78 (refV d' (some ⟨q5, 0, none⟩) A6 c5 c6).toArray ∧ ROwn w.heap.size [g, b1, b2, qw] wi (some ⟨q5, 0, none⟩) A6 c5 c6 d' ∧ Blk wi w.heap.size 71 #[.int .i64 s, .int .i64 q, .int .i64 l] ∧ Keep [] w wi ∧ wi.ownsRow wo.heap.size 24 1 (.slice (some ⟨qw, 0, none⟩) d.bits.length c3) d.bits.length (wordsV d.bits) ∧ wi.ownsRow wp.heap.size 24 1 (.slice (some ⟨gn, 0, none⟩) q cn) q (wordsV (sectL d' σ))) (fun vk _ => q - (intOf vk).toNat)
              case atStart => exact ⟨0, Nat.zero_le _, rfl, G1.out, G2.out, G3.out, G4.out, G5.out, G6.out, G7.out⟩
              case round =>
                obtain ⟨j, hj, rfl, hdv, hblk, hrow, hszi, hki5, hwas, hnow⟩ := hrel
                obtain ⟨wi, rfl⟩ : ∃ wi : World, wi = wr := ⟨_, rfl⟩
                have y1 := hszi.cell 1
                simp at y1
                by_cases hltj : j < q
                · obtain ⟨hh1, hh2⟩ := HHI.out σ hls
                  have e1 := hwas.cellAt (σ * q + j) (by omega)
                  rw [List.getElem?_map, List.getElem?_eq_getElem (by omega), Option.map_some] at e1
                  have e2 := hnow.cellAt j (by omega)
                  have hsg : (sectL d' σ)[j]? = d'.bits[σ * q + j]? := by have := sectL_get d' σ j (by rw [HDNW.out]; exact hltj); rw [HDNW.out] at this; exact this
                  have hbl := HBLEN.out
                  rw [List.getElem?_map, hsg, List.getElem?_eq_getElem (by omega), Option.map_some] at e2
                  have e3 := hblk.cell 3
                  rw [(ref_cells d' (some ⟨q5, 0, none⟩) A6 c5 c6).2.2.2.1] at e3
                  have e4 := hrow.bits.cellAt (σ * q + j) (by omega)
                  have e5 := hrow.bits.frozenAt (σ * q + j)
                  rw [List.getElem?_map, List.getElem?_eq_getElem (by omega), Option.map_some] at e4
                  have ey : d.bits[σ * q + j]'(by omega) = d.bits.getD (σ * q + j) 0 := by simp [show σ * q + j < d.bits.length by omega]
                  have ez : d'.bits[σ * q + j]'(by omega) = d'.bits.getD (σ * q + j) 0 := by simp [show σ * q + j < d'.bits.length by omega]
                  rw [ey] at e1
                  rw [ez] at e2 e4
                  have hp1 := HOP.out wi hki5 1 (.int .i64 o.sector) rfl
                  have hbi : b < wi.heap.size := Nat.lt_of_lt_of_le hb hki5.size
                  have hset : { d' with bits := d'.bits.set (σ * q + j) (d'.bits.getD (σ * q + j) 0) } = d' := by
                    rw [← ez, List.set_getElem_self]
                  have hro := (hrow.keep0 ((Keep.refl [] wi).drew)).setBit (σ * q + j) (d'.bits.getD (σ * q + j) 0) (hrow.wne (by omega))
                  rw [hset] at hro
                  have hnn := HNE.out
                  have hk1 : Keep [q5] wi (wi.drew.setCell ⟨q5, σ * q + j, none⟩ (.int .u32 ((d'.bits.getD (σ * q + j) 0 : Nat) : Int))) := (Keep.refl [q5] wi).drew.setCell (by simp) _
                  have n7 : r7 ≠ q5 := fun h => hrow.notBlk1 hblk (by decide) rfl h.symm
                  have n0 : w.heap.size ≠ q5 := fun h => hrow.notBlk1 hszi (by decide) rfl h.symm
                  have HF1 : Hid (DevAt (wi.drew.setCell ⟨q5, σ * q + j, none⟩ (.int .u32 ((d'.bits.getD (σ * q + j) 0 : Nat) : Int))) g b1 b2 d') := hdv.keep hk1 (by simp; omega) (by simp; omega) (by simp; omega)
                  have HF2 : Hid (Blk (wi.drew.setCell ⟨q5, σ * q + j, none⟩ (.int .u32 ((d'.bits.getD (σ * q + j) 0 : Nat) : Int))) r7 78 (refV d' (some ⟨q5, 0, none⟩) A6 c5 c6).toArray) := hblk.keep hk1 (by simpa using n7)
                  have HF3 : Hid (ROwn w.heap.size [g, b1, b2, qw] (wi.drew.setCell ⟨q5, σ * q + j, none⟩ (.int .u32 ((d'.bits.getD (σ * q + j) 0 : Nat) : Int))) (some ⟨q5, 0, none⟩) A6 c5 c6 d') := hro
                  have HF4 : Hid (Blk (wi.drew.setCell ⟨q5, σ * q + j, none⟩ (.int .u32 ((d'.bits.getD (σ * q + j) 0 : Nat) : Int))) w.heap.size 71 #[.int .i64 s, .int .i64 q, .int .i64 l]) := hszi.keep hk1 (by simpa using n0)
                  have HF5 : Hid (Keep [] w (wi.drew.setCell ⟨q5, σ * q + j, none⟩ (.int .u32 ((d'.bits.getD (σ * q + j) 0 : Nat) : Int)))) := hki5.trans hk1 (fun y hy hlt => by have := (hrow.bits.lt q5 rfl).1; simp at hy; omega)
                  have HF6 : Hid ((wi.drew.setCell ⟨q5, σ * q + j, none⟩ (.int .u32 ((d'.bits.getD (σ * q + j) 0 : Nat) : Int))).ownsRow wo.heap.size 24 1 (.slice (some ⟨qw, 0, none⟩) d.bits.length c3) d.bits.length (wordsV d.bits)) := own_keep hwas hk1 (fun y hy hm => by simp [Value.ownBlock] at hy hm; omega)
                  have HF7 : Hid ((wi.drew.setCell ⟨q5, σ * q + j, none⟩ (.int .u32 ((d'.bits.getD (σ * q + j) 0 : Nat) : Int))).ownsRow wp.heap.size 24 1 (.slice (some ⟨gn, 0, none⟩) q cn) q (wordsV (sectL d' σ))) := own_keep hnow hk1 (fun y hy hm => by simp [Value.ownBlock] at hy hm; omega)
                  have HY := Lib.hid (HBL.out (σ * q + j)).1
                  have HZ := Lib.hid (HBL.out (σ * q + j)).2
                  have HMUL : Hid ((σ : Int) * (q : Int) = ((σ * q : Nat) : Int)) := by show _ = _; rw [Int.natCast_mul]
                  have HLO2 : Hid (σ * q + j < d'.bits.length ∧ σ * q ≤ 65536 ∧ σ * q + j ≤ 65536) := ⟨by omega, by omega, by omega⟩
                  have he : (σ : Int) * (q : Int) + (j : Int) = ((σ * q + j : Nat) : Int) := by rw [HMUL.out, Int.natCast_add]
                  have hm0 : (0 : Int) ≤ (σ : Int) * (q : Int) := by rw [HMUL.out]; omega
                  have hm9 : (σ : Int) * (q : Int) ≤ 65536 := by rw [HMUL.out]; omega
                  clear hdv hblk hrow hszi hki5 hwas hnow hsg ey ez hset hro hnn hk1 n7 n0 hbl hh1 hh2
                  generalize hie : σ * q + j = i at *
                  have HIE0 := Lib.hid hie
                  clear hie
                  generalize hlo : σ * q = lo at *
                  have HIE : Hid (lo + j = i) := HIE0.out
                  have hiN : i < d.bits.length := by have := HLO2.out.1; have := HBLEN.out; omega
                  generalize hye : d.bits.getD i 0 = y at *
                  generalize hze : d'.bits.getD i 0 = z at *
                  have HYE := Lib.hid hye
                  have HZE := Lib.hid hze
                  have HLOE := Lib.hid hlo
                  clear hye hze hlo
                  have HOR : Hid (y ||| z = z) := by have := (HBITS.out σ j hls hltj).2.1 hk4; rw [HLOE.out, HIE.out, HYE.out, HZE.out] at this; exact this.1
                  have HEQ : Hid ((σ : Int) ≠ o.sector → z = y) := by have := (HBITS.out σ j hls hltj).2.1 hk4; rw [HLOE.out, HIE.out, HYE.out, HZE.out] at this; exact this.2
                  by_cases hsec : (σ : Int) = o.sector
                  · have hp1' := hp1
                    rw [← hsec] at hp1'
                    clear hp1 hsec
                    go_wp2_with (refine (prose_yes y z _ HY.out HZ.out HOR.out).mono ?_; rintro e w' ⟨rfl, rfl⟩)
                    have hwr1 : IntKind.i64.wrap ((σ : Int) * (q : Int)) = (lo : Int) := by rw [HMUL.out]; exact IntWalk.i64_in _ (by have := HLO2.out; omega)
                    have hwr2 : IntKind.i64.wrap ((lo : Int) + (j : Int)) = (i : Int) := by have := HIE.out; rw [show (lo : Int) + (j : Int) = (i : Int) by omega]; exact IntWalk.i64_in _ (by have := HLO2.out; omega)
                    have hji : (j : Int) < (q : Int) := by omega
                    have hj0 : (0 : Int) ≤ (j : Int) := by omega
                    have hi0 : (0 : Int) ≤ (i : Int) := by omega
                    have hi1 : (i : Int) < (d'.bits.length : Int) := by have := HLO2.out; omega
                    go_upto_region 25 with fail
                    refine wp_region_still_tail 13 (by kernel_rfl) (by kernel_rfl) ?_
                    simp only [List.take_succ_cons, List.take_zero, List.drop_succ_cons, List.drop_zero]
                    change wpStill _ _ (World.drew wi) _ _ _
                    (repeat still_step)
                    refine wpStill_nil ?_
                    change wpList _ _ _ _ _ (World.drew wi)
                    clear hwr1 hwr2
                    go_wp2_with fail
                    go_roundw
                    case rel => exact ⟨j + 1, by omega, by go_num, HF1.out, HF2.out, HF3.out, HF4.out, HF5.out, HF6.out, HF7.out⟩
                    case measure => simp [intOf] <;> omega
                  · obtain rfl : z = y := HEQ.out hsec
                    have hs1 : ((σ : Int) == o.sector) = false := by simpa using hsec
                    have hs2 : ((σ : Int) != o.sector) = true := by simpa using hsec
                    go_wp2_with (refine (prose_yes z z _ HY.out HZ.out HOR.out).mono ?_; rintro e w' ⟨rfl, rfl⟩)
                    have hwr1 : IntKind.i64.wrap ((σ : Int) * (q : Int)) = (lo : Int) := by rw [HMUL.out]; exact IntWalk.i64_in _ (by have := HLO2.out; omega)
                    have hwr2 : IntKind.i64.wrap ((lo : Int) + (j : Int)) = (i : Int) := by have := HIE.out; rw [show (lo : Int) + (j : Int) = (i : Int) by omega]; exact IntWalk.i64_in _ (by have := HLO2.out; omega)
                    have hji : (j : Int) < (q : Int) := by omega
                    have hj0 : (0 : Int) ≤ (j : Int) := by omega
                    have hi0 : (0 : Int) ≤ (i : Int) := by omega
                    have hi1 : (i : Int) < (d'.bits.length : Int) := by have := HLO2.out; omega
                    go_upto_region 25 with fail
                    refine wp_region_still_tail 13 (by kernel_rfl) (by kernel_rfl) ?_
                    simp only [List.take_succ_cons, List.take_zero, List.drop_succ_cons, List.drop_zero]
                    change wpStill _ _ (World.drew wi) _ _ _
                    (repeat still_step)
                    refine wpStill_nil ?_
                    change wpList _ _ _ _ _ (World.drew wi)
                    clear hwr1 hwr2
                    go_wp2_with fail
                    go_roundw
                    case rel => exact ⟨j + 1, by omega, by go_num, HF1.out, HF2.out, HF3.out, HF4.out, HF5.out, HF6.out, HF7.out⟩
                    case measure => simp [intOf] <;> omega
                · have H1 : Hid (BothG w.heap.size [qw] wi g b1 b2 r7 d') := ⟨hdv, _, _, _, _, hblk, hrow⟩
                  have H2 := Lib.hid hszi
                  have H3 := Lib.hid hki5
                  have H4 := Lib.hid hwas
                  clear hdv hblk hrow hszi hki5 hwas hnow
                  go_wp2_with fail
                  go_roundw
                  case rel => exact ⟨σ + 1, by omega, by go_num, H1.out, H2.out, H3.out, H4.out⟩
                  case measure => simp [intOf] <;> omega
            · have H1 : Hid (BothG w.heap.size [] wp g b1 b2 r7 d') := by
                obtain ⟨hdv, A5, A6, c5, c6, hblk, hrow⟩ := hb5
                exact ⟨hdv, A5, A6, c5, c6, hblk, hrow.more (fun y hy hm => hrow.off1 y hy (by simp at hm; simp; omega)) (fun y hy hm => hrow.off2 y hy (by simp at hm; simp; omega))⟩
              have H2 := Lib.hid hsz5
              have H3 := Lib.hid hk5
              rw [← HSU.out] at H1
              clear hb5 hsz5 hk5 how5
              go_wp2_with fail
              go_roundw
              case rel => exact ⟨k + 1, by omega, by go_num, H1.out, H2.out, H3.out⟩
              case measure => simp [intOf] <;> omega
        · have n4 : (o.kind.tmod 8 % 8 == 4) = false := by simp; omega
          have n4' : (o.kind.tmod 8 % 8 = 4) = False := eq_false (by omega)
          clear m3
          go_wp2_with fail
          go_loopw [12] (fun vs wm => ∃ σ : Nat, σ ≤ s ∧ vs = .int .i64 σ ∧ BothG w.heap.size [qw] wm g b1 b2 r7 d' ∧ Blk wm w.heap.size 71 #[.int .i64 s, .int .i64 q, .int .i64 l] ∧ Keep [] w wm ∧ wm.ownsRow wo.heap.size 24 1 (.slice (some ⟨qw, 0, none⟩) d.bits.length c3) d.bits.length (wordsV d.bits)) (fun vs _ => s - (intOf vs).toNat)
          case atStart => exact ⟨0, Nat.zero_le _, rfl, HB5.out, HSZ5.out, HK5.out, HOW5.out⟩
          case round =>
            obtain ⟨σ, hσ, rfl, hb5, hsz5, hk5, how5⟩ := hrel
            obtain ⟨wp, rfl⟩ : ∃ wp : World, wp = wr := ⟨_, rfl⟩
            have z0 := hsz5.cell 0
            have z1 := hsz5.cell 1
            simp at z0 z1
            by_cases hls : σ < s
            · obtain ⟨hdv, A5, A6, c5, c6, hblk, hrow⟩ := hb5
              have hss : sectS d' σ = sectL d' σ := by unfold sectS; rw [if_pos (by have := HDNS.out; omega)]; rfl
              have HSL : Hid ((sectS d' σ).length = q) := by show _ = _; rw [hss, sectL_len d' HDOK.out σ (by have := HDNS.out; omega)]; exact HDNW.out
              have HSS := Lib.hid hss
              have HFS := Lib.hid (fsector_any g b1 b2 d' σ wp hdv HDOK.out)
              have hbl := (HBITS.out σ 0 hls (by omega)).1
              have hbp : 0 < d'.bits.length := by have := (HHI.out σ hls).1; omega
              obtain ⟨q5, rfl, _, hq5, hq5F⟩ := hrow.form hbp
              have HBLEN := Lib.hid hbl
              have HDV := Lib.hid hdv
              have HBK := Lib.hid hblk
              have HRW := Lib.hid hrow
              have HSZW := Lib.hid hsz5
              have HKW := Lib.hid hk5
              have HOWW := Lib.hid how5
              clear hss hdv hblk hrow hsz5 hk5 how5 hbl
              go_wp2_with fail
              refine HFS.out.mono ?_
              rintro e w7 ⟨An, cn, rfl, hnow, k7⟩
              rw [HSL.out] at hnow ⊢
              obtain ⟨gn, capn, hnv, hgn, _⟩ := hnow.form (by omega)
              injection hnv with hnv
              subst hnv
              rw [HSS.out] at hnow
              have G1 := Lib.hid (HDV.out.keep k7 (by simp) (by simp) (by simp))
              have G2 := Lib.hid (HBK.out.keep0 k7)
              have G3 := Lib.hid (HRW.out.keep0 k7)
              have g4 := HSZW.out.keep0 k7
              have y1 := g4.cell 1
              simp at y1
              have G4 := Lib.hid g4
              have G5 := Lib.hid (HKW.out.then k7)
              have G6 := Lib.hid (own_keep0 HOWW.out k7)
              have G7 := Lib.hid hnow
              have HNE : Hid (gn ≠ q5 ∧ q5 ≠ g ∧ q5 ≠ b1 ∧ q5 ≠ b2 ∧ q5 ≠ qw) := by
                simp only [List.mem_cons, List.not_mem_nil, or_false, not_or] at hq5F
                exact ⟨by omega, hq5F.1, hq5F.2.1, hq5F.2.2.1, hq5F.2.2.2⟩
              clear g4 hnow k7 HDV HBK HRW HSZW HKW HOWW HFS hq5F
              go_wp2_with fail
              clear y1 z0 z1
              go_loopw [14] (fun vk wi => ∃ j : Nat, j ≤ q ∧ vk = .int .i64 j ∧ DevAt wi g b1 b2 d' ∧ Blk wi r7 78 (refV d' (some ⟨q5, 0, none⟩) A6 c5 c6).toArray ∧ ROwn w.heap.size [g, b1, b2, qw] wi (some ⟨q5, 0, none⟩) A6 c5 c6 d' ∧ Blk wi w.heap.size 71 #[.int .i64 s, .int .i64 q, .int .i64 l] ∧ Keep [] w wi ∧ wi.ownsRow wo.heap.size 24 1 (.slice (some ⟨qw, 0, none⟩) d.bits.length c3) d.bits.length (wordsV d.bits) ∧ wi.ownsRow wp.heap.size 24 1 (.slice (some ⟨gn, 0, none⟩) q cn) q (wordsV (sectL d' σ))) (fun vk _ => q - (intOf vk).toNat)
              case atStart => exact ⟨0, Nat.zero_le _, rfl, G1.out, G2.out, G3.out, G4.out, G5.out, G6.out, G7.out⟩
              case round =>
                obtain ⟨j, hj, rfl, hdv, hblk, hrow, hszi, hki5, hwas, hnow⟩ := hrel
                obtain ⟨wi, rfl⟩ : ∃ wi : World, wi = wr := ⟨_, rfl⟩
                have y1 := hszi.cell 1
                simp at y1
                by_cases hltj : j < q
                · obtain ⟨hh1, hh2⟩ := HHI.out σ hls
                  have e1 := hwas.cellAt (σ * q + j) (by omega)
                  rw [List.getElem?_map, List.getElem?_eq_getElem (by omega), Option.map_some] at e1
                  have e2 := hnow.cellAt j (by omega)
                  have hsg : (sectL d' σ)[j]? = d'.bits[σ * q + j]? := by have := sectL_get d' σ j (by rw [HDNW.out]; exact hltj); rw [HDNW.out] at this; exact this
                  have hbl := HBLEN.out
                  rw [List.getElem?_map, hsg, List.getElem?_eq_getElem (by omega), Option.map_some] at e2
                  have e3 := hblk.cell 3
                  rw [(ref_cells d' (some ⟨q5, 0, none⟩) A6 c5 c6).2.2.2.1] at e3
                  have e4 := hrow.bits.cellAt (σ * q + j) (by omega)
                  have e5 := hrow.bits.frozenAt (σ * q + j)
                  rw [List.getElem?_map, List.getElem?_eq_getElem (by omega), Option.map_some] at e4
                  have ey : d.bits[σ * q + j]'(by omega) = d.bits.getD (σ * q + j) 0 := by simp [show σ * q + j < d.bits.length by omega]
                  have ez : d'.bits[σ * q + j]'(by omega) = d'.bits.getD (σ * q + j) 0 := by simp [show σ * q + j < d'.bits.length by omega]
                  rw [ey] at e1
                  rw [ez] at e2 e4
                  have hp1 := HOP.out wi hki5 1 (.int .i64 o.sector) rfl
                  have hbi : b < wi.heap.size := Nat.lt_of_lt_of_le hb hki5.size
                  have hset : { d' with bits := d'.bits.set (σ * q + j) (d'.bits.getD (σ * q + j) 0) } = d' := by
                    rw [← ez, List.set_getElem_self]
                  have hro := (hrow.keep0 ((Keep.refl [] wi).drew)).setBit (σ * q + j) (d'.bits.getD (σ * q + j) 0) (hrow.wne (by omega))
                  rw [hset] at hro
                  have hnn := HNE.out
                  have hk1 : Keep [q5] wi (wi.drew.setCell ⟨q5, σ * q + j, none⟩ (.int .u32 ((d'.bits.getD (σ * q + j) 0 : Nat) : Int))) := (Keep.refl [q5] wi).drew.setCell (by simp) _
                  have n7 : r7 ≠ q5 := fun h => hrow.notBlk1 hblk (by decide) rfl h.symm
                  have n0 : w.heap.size ≠ q5 := fun h => hrow.notBlk1 hszi (by decide) rfl h.symm
                  have HF1 : Hid (DevAt (wi.drew.setCell ⟨q5, σ * q + j, none⟩ (.int .u32 ((d'.bits.getD (σ * q + j) 0 : Nat) : Int))) g b1 b2 d') := hdv.keep hk1 (by simp; omega) (by simp; omega) (by simp; omega)
                  have HF2 : Hid (Blk (wi.drew.setCell ⟨q5, σ * q + j, none⟩ (.int .u32 ((d'.bits.getD (σ * q + j) 0 : Nat) : Int))) r7 78 (refV d' (some ⟨q5, 0, none⟩) A6 c5 c6).toArray) := hblk.keep hk1 (by simpa using n7)
                  have HF3 : Hid (ROwn w.heap.size [g, b1, b2, qw] (wi.drew.setCell ⟨q5, σ * q + j, none⟩ (.int .u32 ((d'.bits.getD (σ * q + j) 0 : Nat) : Int))) (some ⟨q5, 0, none⟩) A6 c5 c6 d') := hro
                  have HF4 : Hid (Blk (wi.drew.setCell ⟨q5, σ * q + j, none⟩ (.int .u32 ((d'.bits.getD (σ * q + j) 0 : Nat) : Int))) w.heap.size 71 #[.int .i64 s, .int .i64 q, .int .i64 l]) := hszi.keep hk1 (by simpa using n0)
                  have HF5 : Hid (Keep [] w (wi.drew.setCell ⟨q5, σ * q + j, none⟩ (.int .u32 ((d'.bits.getD (σ * q + j) 0 : Nat) : Int)))) := hki5.trans hk1 (fun y hy hlt => by have := (hrow.bits.lt q5 rfl).1; simp at hy; omega)
                  have HF6 : Hid ((wi.drew.setCell ⟨q5, σ * q + j, none⟩ (.int .u32 ((d'.bits.getD (σ * q + j) 0 : Nat) : Int))).ownsRow wo.heap.size 24 1 (.slice (some ⟨qw, 0, none⟩) d.bits.length c3) d.bits.length (wordsV d.bits)) := own_keep hwas hk1 (fun y hy hm => by simp [Value.ownBlock] at hy hm; omega)
                  have HF7 : Hid ((wi.drew.setCell ⟨q5, σ * q + j, none⟩ (.int .u32 ((d'.bits.getD (σ * q + j) 0 : Nat) : Int))).ownsRow wp.heap.size 24 1 (.slice (some ⟨gn, 0, none⟩) q cn) q (wordsV (sectL d' σ))) := own_keep hnow hk1 (fun y hy hm => by simp [Value.ownBlock] at hy hm; omega)
                  have HY := Lib.hid (HBL.out (σ * q + j)).1
                  have HZ := Lib.hid (HBL.out (σ * q + j)).2
                  have HMUL : Hid ((σ : Int) * (q : Int) = ((σ * q : Nat) : Int)) := by show _ = _; rw [Int.natCast_mul]
                  have HLO2 : Hid (σ * q + j < d'.bits.length ∧ σ * q ≤ 65536 ∧ σ * q + j ≤ 65536) := ⟨by omega, by omega, by omega⟩
                  have he : (σ : Int) * (q : Int) + (j : Int) = ((σ * q + j : Nat) : Int) := by rw [HMUL.out, Int.natCast_add]
                  have hm0 : (0 : Int) ≤ (σ : Int) * (q : Int) := by rw [HMUL.out]; omega
                  have hm9 : (σ : Int) * (q : Int) ≤ 65536 := by rw [HMUL.out]; omega
                  clear hdv hblk hrow hszi hki5 hwas hnow hsg ey ez hset hro hnn hk1 n7 n0 hbl hh1 hh2
                  generalize hie : σ * q + j = i at *
                  have HIE0 := Lib.hid hie
                  clear hie
                  generalize hlo : σ * q = lo at *
                  have HIE : Hid (lo + j = i) := HIE0.out
                  have hiN : i < d.bits.length := by have := HLO2.out.1; have := HBLEN.out; omega
                  generalize hye : d.bits.getD i 0 = y at *
                  generalize hze : d'.bits.getD i 0 = z at *
                  have HYE := Lib.hid hye
                  have HZE := Lib.hid hze
                  have HLOE := Lib.hid hlo
                  clear hye hze hlo
                  have HOR : Hid (z ||| y = y) := by have := (HBITS.out σ j hls hltj).2.2 hk4; rw [HLOE.out, HIE.out, HYE.out, HZE.out] at this; exact this
                  go_wp2_with (refine (pfell_yes y z _ HY.out HZ.out HOR.out).mono ?_; rintro e w' ⟨rfl, rfl⟩)
                  have hwr1 : IntKind.i64.wrap ((σ : Int) * (q : Int)) = (lo : Int) := by rw [HMUL.out]; exact IntWalk.i64_in _ (by have := HLO2.out; omega)
                  have hwr2 : IntKind.i64.wrap ((lo : Int) + (j : Int)) = (i : Int) := by have := HIE.out; rw [show (lo : Int) + (j : Int) = (i : Int) by omega]; exact IntWalk.i64_in _ (by have := HLO2.out; omega)
                  have hji : (j : Int) < (q : Int) := by omega
                  have hj0 : (0 : Int) ≤ (j : Int) := by omega
                  have hi0 : (0 : Int) ≤ (i : Int) := by omega
                  have hi1 : (i : Int) < (d'.bits.length : Int) := by have := HLO2.out; omega
                  go_upto_region 25 with fail
                  refine wp_region_still_tail 13 (by kernel_rfl) (by kernel_rfl) ?_
                  simp only [List.take_succ_cons, List.take_zero, List.drop_succ_cons, List.drop_zero]
                  change wpStill _ _ (World.drew wi) _ _ _
                  (repeat still_step)
                  refine wpStill_nil ?_
                  change wpList _ _ _ _ _ (World.drew wi)
                  clear hwr1 hwr2
                  go_wp2_with fail
                  go_roundw
                  case rel => exact ⟨j + 1, by omega, by go_num, HF1.out, HF2.out, HF3.out, HF4.out, HF5.out, HF6.out, HF7.out⟩
                  case measure => simp [intOf] <;> omega
                · have H1 : Hid (BothG w.heap.size [qw] wi g b1 b2 r7 d') := ⟨hdv, _, _, _, _, hblk, hrow⟩
                  have H2 := Lib.hid hszi
                  have H3 := Lib.hid hki5
                  have H4 := Lib.hid hwas
                  clear hdv hblk hrow hszi hki5 hwas hnow
                  go_wp2_with fail
                  go_roundw
                  case rel => exact ⟨σ + 1, by omega, by go_num, H1.out, H2.out, H3.out, H4.out⟩
                  case measure => simp [intOf] <;> omega
            · have H1 : Hid (BothG w.heap.size [] wp g b1 b2 r7 d') := by
                obtain ⟨hdv, A5, A6, c5, c6, hblk, hrow⟩ := hb5
                exact ⟨hdv, A5, A6, c5, c6, hblk, hrow.more (fun y hy hm => hrow.off1 y hy (by simp at hm; simp; omega)) (fun y hy hm => hrow.off2 y hy (by simp at hm; simp; omega))⟩
              have H2 := Lib.hid hsz5
              have H3 := Lib.hid hk5
              rw [← HSU.out] at H1
              clear hb5 hsz5 hk5 how5
              go_wp2_with fail
              go_roundw
              case rel => exact ⟨k + 1, by omega, by go_num, H1.out, H2.out, H3.out⟩
              case measure => simp [intOf] <;> omega
    · have HKP := Lib.hid hkp
      clear hboth hsz hkp
      go_wp2_with fail
      refine (alive06 _).mono ?_
      rintro e w9 ⟨rfl, k9⟩
      go_wp2_with fail
      go_ret
      exact ⟨rfl, HKP.out.then k9⟩
end Go.Proofs.Ytgonnddgljgghaa
