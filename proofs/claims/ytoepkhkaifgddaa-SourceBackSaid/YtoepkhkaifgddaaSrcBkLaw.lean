/- The statement SourceBack, walked for any image and any text. No other condition. -/
import Derived.Test.YtoepkhkaifgddaaSrcKn
namespace Go.Proofs.Ytoepkhkaifgddaa
open Go.RowKit

set_option maxRecDepth 100000 in
set_option maxHeartbeats 8000000 in
theorem sourceBack_any (v : ImgV) (x : Img) (s : ByteArray) (w : World) (h : ImgAt w v x) :
    Calls Try.prog 6 #[.agg (imgCells v x).toArray, .string s] w fun e w' => e = .returned (.bool true) ∧ Keep [] w w' := by
  have hx : Kn w x (imgCells v x) := Kn.of h
  have hb := img_box w v x
  have K0 := Lib.hid ((Keep.refl [] w).alloc (.cells (imgCells v x).toArray 26))
  have hc : Hid (∀ W, Keep [] (w.alloc (.cells (imgCells v x).toArray 26)) W → CellsAt W w.heap.size 0 (imgCells v x)) := fun W hk => (hb.keep0 hk).cellsAt
  clear h hb
  generalize imgCells v x = il at *
  have HX := Lib.hid hx
  have HIL := Lib.hid hx.len
  clear hx
  by_cases hbig : 5000 < s.size
  · have hq : decide ((5000 : Int) < (s.size : Int)) = true := decide_eq_true (by omega)
    clear hbig hc HIL HX
    go_enter Try.func6, Try.ntmps6
    go_wp2
    go_ret
    exact ⟨rfl, K0.out⟩
  · have hq : decide ((5000 : Int) < (s.size : Int)) = false := decide_eq_false (by omega)
    have HS : Hid (s.size ≤ 1000000) := by show _ ≤ _; omega
    clear hbig
    have HG := Lib.hid (great_kn (HX.out.keep0 K0.out))
    have HR := fun W hk => Lib.hid (right_kn (HX.out.keep0 (w' := W) hk))
    have HA := fun W => Lib.hid (alive12_any W)
    have HBK : Hid (greatImg x = false → ((chkImg x).2 == 0) = true → ∃ S : ByteArray, (∀ W, Keep [] w W → Hid (Calls Try.prog 20 #[.agg il.toArray] W fun e w' => e = .returned (.string S) ∧ Keep [] W w')) ∧
      ∀ W, Hid (Calls Try.prog 10 #[.string S] W fun e w' => ∃ jl, e = .returned (.tuple #[.agg jl.toArray, .int .i64 0, .int .i64 0]) ∧ Kn w' x jl ∧ Keep [] W w')) := fun hg hr => back_kn HX.out hg hr
    have HPS := fun W => Lib.hid (parse_kn s W HS.out)
    obtain ⟨yz, hyz⟩ : ∃ yz, srcP s = yz := ⟨_, rfl⟩
    rw [hyz] at HPS
    clear hyz HS
    obtain ⟨z, zl, ze⟩ := yz
    dsimp only at HPS
    obtain ⟨bg, hbg⟩ : ∃ b, greatImg x = b := ⟨_, rfl⟩
    obtain ⟨br, hbr⟩ : ∃ b, ((chkImg x).2 == 0) = b := ⟨_, rfl⟩
    rw [hbg] at HG HBK
    rw [hbr] at HR HBK
    clear hbg hbr
    cases bg
    · go_enter Try.func6, Try.ntmps6
      go_wp2_with (refine stop_at 18 rfl ?_)
      constructor
      refine load_agg_gd (by rfl) 26 (.tmp 2) rfl rfl (cs := il) (by rw [HIL.out]; exact agg_image) (hc.out _ (Keep.refl _ _)) ?_
      go_wp2_with fail
      refine HG.out.mono ?_
      rintro e w1 ⟨rfl, k1⟩
      have K1 := Lib.hid (K0.out.then k1)
      have k1' := Lib.hid k1
      clear k1 HG
      go_wp2_with (refine wpList_load_agg rfl 26 (.tmp 2) rfl rfl (cs := il) (by rw [HIL.out]; exact agg_image) (hc.out _ k1'.out) ?_)
      refine (HR _ K1.out).out.mono ?_
      rintro e w2 ⟨rfl, k2⟩
      have K2 := Lib.hid (K1.out.then k2)
      have k2' := Lib.hid (k1'.out.then k2)
      clear k2 HR k1' K1
      cases br
      · clear HBK
        go_wp2_with (first
          | (refine (HPS _).out.mono ?_; rintro e wA ⟨zl0, rfl, hz, kA⟩)
          | (refine stop_store 26 (.tmp 8) (.tmp 41) rfl ?_))
        constructor
        refine wpList_store_all rfl 26 (.tmp 8) (.tmp 41) rfl rfl rfl (vs := zl0) (by rw [hz.len]; exact agg_image.2) (Blk.new _ _ _) hz.one (by rw [hz.len]; rfl) ?_
        intro wB dB kB
        have krB : Keep [] wA wB := ((Keep.refl [] wA).alloc _).trans kB (fun y hy h => by simp at hy h; omega)
        have KB := Lib.hid ((K2.out.then kA).then krB)
        have HZ := Lib.hid (hz.keep0 krB)
        have HZL := Lib.hid hz.len
        have hcz : Hid (∀ W, Keep [] wB W → CellsAt W wA.heap.size 0 zl0) := fun W hk => (dB.keep0 hk).cellsAt
        clear kA krB kB dB hz HPS
        generalize wA.heap.size = gz at *
        have HGZ := Lib.hid (great_kn HZ.out)
        have HRZ := fun W (hk : Keep [] wB W) => Lib.hid (right_kn (HZ.out.keep0 hk))
        have HBZ : Hid (greatImg z = false → ((chkImg z).2 == 0) = true → ∃ S : ByteArray, (∀ W, Keep [] wB W → Hid (Calls Try.prog 20 #[.agg zl0.toArray] W fun e w' => e = .returned (.string S) ∧ Keep [] W w')) ∧
          ∀ W, Hid (Calls Try.prog 10 #[.string S] W fun e w' => ∃ jl, e = .returned (.tuple #[.agg jl.toArray, .int .i64 0, .int .i64 0]) ∧ Kn w' z jl ∧ Keep [] W w')) := fun hg hr => back_kn HZ.out hg hr
        obtain ⟨cg, hcg⟩ : ∃ b, greatImg z = b := ⟨_, rfl⟩
        obtain ⟨cr, hcr⟩ : ∃ b, ((chkImg z).2 == 0) = b := ⟨_, rfl⟩
        rw [hcg] at HGZ HBZ
        rw [hcr] at HRZ HBZ
        clear hcg hcr
        by_cases h0 : ze = 0
        · subst h0
          have HQ := Lib.hid (show Keep [] wB wB from Keep.refl _ _)
          go_wp2_with (refine stop_at 47 rfl ?_)
          constructor
          refine load_agg_gd (by rfl) 26 (.tmp 8) rfl rfl (cs := zl0) (by rw [HZL.out]; exact agg_image) (hcz.out _ HQ.out) ?_
          go_wp2_with fail
          refine HGZ.out.mono ?_
          rintro e wC ⟨rfl, kC⟩
          have KC := Lib.hid (KB.out.then kC)
          have kC' := Lib.hid kC
          clear kC HGZ
          cases cg
          · go_wp2_with (refine stop_at 51 rfl ?_)
            constructor
            refine load_agg_gd (by rfl) 26 (.tmp 8) rfl rfl (cs := zl0) (by rw [HZL.out]; exact agg_image) (hcz.out _ kC'.out) ?_
            go_wp2_with fail
            refine (HRZ _ kC'.out).out.mono ?_
            rintro e wD ⟨rfl, kD⟩
            have KD := Lib.hid (KC.out.then kD)
            have kD' := Lib.hid (kC'.out.then kD)
            clear kD HRZ kC'
            cases cr
            · clear HBZ
              go_wp2_with fail
              refine (HA _).out.mono ?_
              rintro e wE ⟨rfl, kE⟩
              have KE := Lib.hid (KD.out.then kE)
              clear kE
              go_wp2
              go_ret
              exact ⟨rfl, KE.out⟩
            · obtain ⟨S2, HS1, HS2⟩ := HBZ.out (by simp) (by simp)
              clear HBZ
              go_wp2_with (refine wpList_load_agg rfl 26 (.tmp 8) rfl rfl (cs := zl0) (by rw [HZL.out]; exact agg_image) (hcz.out _ kD'.out) ?_)
              refine (HS1 _ kD'.out).out.mono ?_
              rintro e wE ⟨rfl, kE⟩
              have KE := Lib.hid (KD.out.then kE)
              have kE' := Lib.hid (kD'.out.then kE)
              clear kE HS1
              go_wp2_with (first
                | (refine (HS2 _).out.mono ?_; rintro e wF ⟨wl, rfl, hw, kF⟩)
                | (refine stop_store 26 (.tmp 11) (.tmp 60) rfl ?_))
              constructor
              refine wpList_store_all rfl 26 (.tmp 11) (.tmp 60) rfl rfl rfl (vs := wl) (by rw [hw.len]; exact agg_image.2) (Blk.new _ _ _) hw.one (by rw [hw.len]; rfl) ?_
              intro wG dG kG
              have krG : Keep [] wF wG := ((Keep.refl [] wF).alloc _).trans kG (fun y hy h => by simp at hy h; omega)
              have KG := Lib.hid ((KE.out.then kF).then krG)
              have kG' := Lib.hid ((kE'.out.then kF).then krG)
              have HW := Lib.hid (hw.keep0 krG)
              have HWL := Lib.hid hw.len
              have hcw := Lib.hid dG.cellsAt
              have HSM := Lib.hid (same_kn HW.out (HZ.out.keep0 kG'.out))
              rw [show decide (z = z) = true from by simp] at HSM
              clear kF krG kG dG hw HS2
              generalize wF.heap.size = gw at *
              go_wp2_with (refine stop_at 66 rfl ?_)
              constructor
              refine load_agg_gd (by rfl) 26 (.tmp 11) rfl rfl (cs := wl) (by rw [HWL.out]; exact agg_image) hcw.out ?_
              refine load_agg_gd (by rfl) 26 (.tmp 8) rfl rfl (cs := zl0) (by rw [HZL.out]; exact agg_image) (hcz.out _ kG'.out) ?_
              go_wp2_with fail
              refine HSM.out.mono ?_
              rintro e wH ⟨rfl, kH⟩
              have KH := Lib.hid (KG.out.then kH)
              clear kH HSM
              go_wp2_with fail
              refine (HA _).out.mono ?_
              rintro e wI ⟨rfl, kI⟩
              have KI := Lib.hid (KH.out.then kI)
              clear kI
              go_wp2
              go_ret
              exact ⟨rfl, KI.out⟩
          · clear HBZ HRZ
            go_wp2_with fail
            refine (HA _).out.mono ?_
            rintro e wE ⟨rfl, kE⟩
            have KE := Lib.hid (KC.out.then kE)
            clear kE
            go_wp2
            go_ret
            exact ⟨rfl, KE.out⟩
        · have hz0 : (ze == 0) = false := by simpa using h0
          clear HBZ HRZ HGZ
          go_wp2_with fail
          refine (HA _).out.mono ?_
          rintro e wE ⟨rfl, kE⟩
          have KE := Lib.hid (KB.out.then kE)
          clear kE
          go_wp2
          go_ret
          exact ⟨rfl, KE.out⟩
      · obtain ⟨S1, HS1, HS2⟩ := HBK.out (by simp) (by simp)
        clear HBK
        go_wp2_with (refine wpList_load_agg rfl 26 (.tmp 2) rfl rfl (cs := il) (by rw [HIL.out]; exact agg_image) (hc.out _ k2'.out) ?_)
        refine (HS1 _ K2.out).out.mono ?_
        rintro e w3 ⟨rfl, k3⟩
        have K3 := Lib.hid (K2.out.then k3)
        have k3' := Lib.hid (k2'.out.then k3)
        clear k3 HS1
        go_wp2_with (first
          | (refine (HS2 _).out.mono ?_; rintro e w4 ⟨yl, rfl, hy, k4⟩)
          | (refine stop_store 26 (.tmp 5) (.tmp 27) rfl ?_))
        constructor
        refine wpList_store_all rfl 26 (.tmp 5) (.tmp 27) rfl rfl rfl (vs := yl) (by rw [hy.len]; exact agg_image.2) (Blk.new _ _ _) hy.one (by rw [hy.len]; rfl) ?_
        intro w5 d5 k5
        have kr5 : Keep [] w4 w5 := ((Keep.refl [] w4).alloc _).trans k5 (fun y hy h => by simp at hy h; omega)
        have K5 := Lib.hid ((K3.out.then k4).then kr5)
        have k5' := Lib.hid ((k3'.out.then k4).then kr5)
        have HYL := Lib.hid hy.len
        have hcy := Lib.hid d5.cellsAt
        have HSM := Lib.hid (same_kn (HX.out.keep0 K5.out) (hy.keep0 kr5))
        rw [show decide (x = x) = true from by simp] at HSM
        clear k4 kr5 k5 d5 hy HS2
        generalize w4.heap.size = gy at *
        go_wp2_with (refine stop_at 33 rfl ?_)
        constructor
        refine load_agg_gd (by rfl) 26 (.tmp 2) rfl rfl (cs := il) (by rw [HIL.out]; exact agg_image) (hc.out _ k5'.out) ?_
        refine load_agg_gd (by rfl) 26 (.tmp 5) rfl rfl (cs := yl) (by rw [HYL.out]; exact agg_image) hcy.out ?_
        go_wp2_with fail
        refine HSM.out.mono ?_
        rintro e w6 ⟨rfl, k6⟩
        have K6 := Lib.hid (K5.out.then k6)
        clear k6 HSM hcy
        go_wp2_with (first
          | (refine (HPS _).out.mono ?_; rintro e wA ⟨zl0, rfl, hz, kA⟩)
          | (refine stop_store 26 (.tmp 8) (.tmp 41) rfl ?_))
        constructor
        refine wpList_store_all rfl 26 (.tmp 8) (.tmp 41) rfl rfl rfl (vs := zl0) (by rw [hz.len]; exact agg_image.2) (Blk.new _ _ _) hz.one (by rw [hz.len]; rfl) ?_
        intro wB dB kB
        have krB : Keep [] wA wB := ((Keep.refl [] wA).alloc _).trans kB (fun y hy h => by simp at hy h; omega)
        have KB := Lib.hid ((K6.out.then kA).then krB)
        have HZ := Lib.hid (hz.keep0 krB)
        have HZL := Lib.hid hz.len
        have hcz : Hid (∀ W, Keep [] wB W → CellsAt W wA.heap.size 0 zl0) := fun W hk => (dB.keep0 hk).cellsAt
        clear kA krB kB dB hz HPS
        generalize wA.heap.size = gz at *
        have HGZ := Lib.hid (great_kn HZ.out)
        have HRZ := fun W (hk : Keep [] wB W) => Lib.hid (right_kn (HZ.out.keep0 hk))
        have HBZ : Hid (greatImg z = false → ((chkImg z).2 == 0) = true → ∃ S : ByteArray, (∀ W, Keep [] wB W → Hid (Calls Try.prog 20 #[.agg zl0.toArray] W fun e w' => e = .returned (.string S) ∧ Keep [] W w')) ∧
          ∀ W, Hid (Calls Try.prog 10 #[.string S] W fun e w' => ∃ jl, e = .returned (.tuple #[.agg jl.toArray, .int .i64 0, .int .i64 0]) ∧ Kn w' z jl ∧ Keep [] W w')) := fun hg hr => back_kn HZ.out hg hr
        obtain ⟨cg, hcg⟩ : ∃ b, greatImg z = b := ⟨_, rfl⟩
        obtain ⟨cr, hcr⟩ : ∃ b, ((chkImg z).2 == 0) = b := ⟨_, rfl⟩
        rw [hcg] at HGZ HBZ
        rw [hcr] at HRZ HBZ
        clear hcg hcr
        by_cases h0 : ze = 0
        · subst h0
          have HQ := Lib.hid (show Keep [] wB wB from Keep.refl _ _)
          go_wp2_with (refine stop_at 47 rfl ?_)
          constructor
          refine load_agg_gd (by rfl) 26 (.tmp 8) rfl rfl (cs := zl0) (by rw [HZL.out]; exact agg_image) (hcz.out _ HQ.out) ?_
          go_wp2_with fail
          refine HGZ.out.mono ?_
          rintro e wC ⟨rfl, kC⟩
          have KC := Lib.hid (KB.out.then kC)
          have kC' := Lib.hid kC
          clear kC HGZ
          cases cg
          · go_wp2_with (refine stop_at 51 rfl ?_)
            constructor
            refine load_agg_gd (by rfl) 26 (.tmp 8) rfl rfl (cs := zl0) (by rw [HZL.out]; exact agg_image) (hcz.out _ kC'.out) ?_
            go_wp2_with fail
            refine (HRZ _ kC'.out).out.mono ?_
            rintro e wD ⟨rfl, kD⟩
            have KD := Lib.hid (KC.out.then kD)
            have kD' := Lib.hid (kC'.out.then kD)
            clear kD HRZ kC'
            cases cr
            · clear HBZ
              go_wp2_with fail
              refine (HA _).out.mono ?_
              rintro e wE ⟨rfl, kE⟩
              have KE := Lib.hid (KD.out.then kE)
              clear kE
              go_wp2
              go_ret
              exact ⟨rfl, KE.out⟩
            · obtain ⟨S2, HS1, HS2⟩ := HBZ.out (by simp) (by simp)
              clear HBZ
              go_wp2_with (refine wpList_load_agg rfl 26 (.tmp 8) rfl rfl (cs := zl0) (by rw [HZL.out]; exact agg_image) (hcz.out _ kD'.out) ?_)
              refine (HS1 _ kD'.out).out.mono ?_
              rintro e wE ⟨rfl, kE⟩
              have KE := Lib.hid (KD.out.then kE)
              have kE' := Lib.hid (kD'.out.then kE)
              clear kE HS1
              go_wp2_with (first
                | (refine (HS2 _).out.mono ?_; rintro e wF ⟨wl, rfl, hw, kF⟩)
                | (refine stop_store 26 (.tmp 11) (.tmp 60) rfl ?_))
              constructor
              refine wpList_store_all rfl 26 (.tmp 11) (.tmp 60) rfl rfl rfl (vs := wl) (by rw [hw.len]; exact agg_image.2) (Blk.new _ _ _) hw.one (by rw [hw.len]; rfl) ?_
              intro wG dG kG
              have krG : Keep [] wF wG := ((Keep.refl [] wF).alloc _).trans kG (fun y hy h => by simp at hy h; omega)
              have KG := Lib.hid ((KE.out.then kF).then krG)
              have kG' := Lib.hid ((kE'.out.then kF).then krG)
              have HW := Lib.hid (hw.keep0 krG)
              have HWL := Lib.hid hw.len
              have hcw := Lib.hid dG.cellsAt
              have HSM := Lib.hid (same_kn HW.out (HZ.out.keep0 kG'.out))
              rw [show decide (z = z) = true from by simp] at HSM
              clear kF krG kG dG hw HS2
              generalize wF.heap.size = gw at *
              go_wp2_with (refine stop_at 66 rfl ?_)
              constructor
              refine load_agg_gd (by rfl) 26 (.tmp 11) rfl rfl (cs := wl) (by rw [HWL.out]; exact agg_image) hcw.out ?_
              refine load_agg_gd (by rfl) 26 (.tmp 8) rfl rfl (cs := zl0) (by rw [HZL.out]; exact agg_image) (hcz.out _ kG'.out) ?_
              go_wp2_with fail
              refine HSM.out.mono ?_
              rintro e wH ⟨rfl, kH⟩
              have KH := Lib.hid (KG.out.then kH)
              clear kH HSM
              go_wp2_with fail
              refine (HA _).out.mono ?_
              rintro e wI ⟨rfl, kI⟩
              have KI := Lib.hid (KH.out.then kI)
              clear kI
              go_wp2
              go_ret
              exact ⟨rfl, KI.out⟩
          · clear HBZ HRZ
            go_wp2_with fail
            refine (HA _).out.mono ?_
            rintro e wE ⟨rfl, kE⟩
            have KE := Lib.hid (KC.out.then kE)
            clear kE
            go_wp2
            go_ret
            exact ⟨rfl, KE.out⟩
        · have hz0 : (ze == 0) = false := by simpa using h0
          clear HBZ HRZ HGZ
          go_wp2_with fail
          refine (HA _).out.mono ?_
          rintro e wE ⟨rfl, kE⟩
          have KE := Lib.hid (KB.out.then kE)
          clear kE
          go_wp2
          go_ret
          exact ⟨rfl, KE.out⟩
    · clear HR HBK HPS
      go_enter Try.func6, Try.ntmps6
      go_wp2_with (refine stop_at 18 rfl ?_)
      constructor
      refine load_agg_gd (by rfl) 26 (.tmp 2) rfl rfl (cs := il) (by rw [HIL.out]; exact agg_image) (hc.out _ (Keep.refl _ _)) ?_
      go_wp2_with fail
      refine HG.out.mono ?_
      rintro e w1 ⟨rfl, k1⟩
      have K1 := Lib.hid (K0.out.then k1)
      clear k1
      go_wp2
      go_ret
      exact ⟨rfl, K1.out⟩
end Go.Proofs.Ytoepkhkaifgddaa
