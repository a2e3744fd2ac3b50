/- The statement CodecBack, walked for any image and any row of words. Condition: the table of math/bits lies where the program's text lays it. -/
import Derived.Test.YtfgjcjpemlgnmaaDoorCrKn
namespace Go.Proofs.YtfgjcjpemlgnmaaDoor
open Go.RowKit

set_option maxRecDepth 100000 in
set_option maxHeartbeats 4000000 in
theorem codecBack_any (v : ImgV) (x : Img) (A : Option Addr) (c : Nat) (l : List Int) (w : World) (hT : Tab w) (h : ImgAt w v x) (hW : Reads w 1 A l.length (uw l)) (hlt : ∀ n ∈ l, 0 ≤ n ∧ n < 4294967296) :
    Calls Tryd.prog 5 #[.agg (imgCells v x).toArray, .slice A l.length c] w fun e w' => e = .returned (.bool true) ∧ Keep [] w w' := by
  have hx : KnC w x (imgCells v x) := KnC.of h
  have hb := img_box w v x
  have K0 := Lib.hid ((Keep.refl [] w).alloc (.cells (imgCells v x).toArray 26))
  have hc : Hid (∀ W, Keep [] (w.alloc (.cells (imgCells v x).toArray 26)) W → CellsAt W w.heap.size 0 (imgCells v x)) := fun W hk => (hb.keep0 hk).cellsAt
  clear h hb
  generalize imgCells v x = il at *
  obtain ⟨W0, hW0⟩ : ∃ W0, w.alloc (.cells il.toArray 26) = W0 := ⟨_, rfl⟩
  rw [hW0] at K0 hc
  have HW0 := Lib.hid hW0
  have HX := Lib.hid hx
  have HIL := Lib.hid hx.len
  have HT := Lib.hid hT
  have HG := Lib.hid (great_knC (HX.out.keep0 K0.out))
  have HAl := fun W (k : Keep [] w W) => Lib.hid (alive11 W (hT.keep0 k))
  obtain ⟨n, hn⟩ : ∃ n, l.length = n := ⟨_, rfl⟩
  have HROW := fun W (k : Keep [] w W) (A9 : Option Addr) (c9 : Nat) (r9 : Reads W 1 A9 l.length (uw l)) (hs : l.length ≤ 100000) => Lib.hid (row_same A9 A c9 c n n l W hn hn (by rw [← hn]; exact r9) (by rw [← hn]; exact hW.keep0 k) (by rw [← hn]; exact hs))
  have HLN := Lib.hid hn
  have q0 := hc.out _ (Keep.refl _ _)
  have hEx := enc_knC (w := W0) (HX.out.keep0 K0.out) (hT.keep0 K0.out)
  clear hx hW0
  cases hgr : greatImg x
  · rw [hgr] at HG
    by_cases hbig : 5000 < l.length
    · have hq2 : (5000 : Int) < (n : Int) := by omega
      rw [hn]
      clear hbig hW HROW hEx hn
      go_enter Tryd.func5, Tryd.ntmps5
      go_wp2_with (first | rw [HW0.out] | (refine wpList_load_agg rfl 26 (.tmp 2) rfl rfl (cs := il) (by rw [HIL.out]; exact agg_image) q0 ?_))
      refine HG.out.mono ?_
      rintro e w1 ⟨rfl, k1⟩
      go_wp2
      go_ret
      exact ⟨rfl, K0.out.then k1⟩
    · have hq2 : ¬ (5000 : Int) < (n : Int) := by omega
      replace HROW := fun W k A9 c9 r9 => HROW W k A9 c9 r9 (by omega)
      obtain ⟨r, hr⟩ : ∃ r, decR l = r := ⟨_, rfl⟩
      obtain ⟨z, gc⟩ := r
      have HDl := fun W (k : Keep [] w W) => Lib.hid (dec_knC A c n l W hn (by rw [← hn]; exact hW.keep0 k) hlt (by omega) (hT.keep0 k) z gc hr)
      have hg : gc = 110 ∨ (gc = 0 ∧ (chkImg z).2 = 0 ∧ encL z = l) := by
        have := dec_code l
        rw [hr] at this
        rcases this with h1 | h1
        · obtain rfl : gc = 0 := h1
          exact .inr ⟨rfl, enc_dec hlt hr⟩
        · exact .inl h1
      obtain ⟨hin, hle⟩ := encL_in HX.out.ok
      have hde := dec_enc HX.out.ok
      rw [hn]
      clear hbig hW hn hr hT hlt hgr
      obtain ⟨ex, hex⟩ : ∃ a, encL x = a := ⟨_, rfl⟩
      obtain ⟨nx, hnx⟩ : ∃ a, ex.length = a := ⟨_, rfl⟩
      have HEx := fun W (k : Keep [] w W) => Lib.hid (enc_knC (HX.out.keep0 k) (HT.out.keep0 k))
      rw [hex] at hin hle hde HEx
      clear hEx hex
      have HNX := Lib.hid hnx
      go_enter Tryd.func5, Tryd.ntmps5
      go_wp2_with (first | rw [HW0.out] | (refine wpList_load_agg rfl 26 (.tmp 2) rfl rfl (cs := il) (by rw [HIL.out]; exact agg_image) q0 ?_))
      refine HG.out.mono ?_
      rintro e w1 ⟨rfl, k1⟩
      have HK1 := Lib.hid (K0.out.then k1)
      have q1 := hc.out _ k1
      have HE1 := HEx w1 HK1.out
      have HK01 := Lib.hid k1
      clear HG q0 k1 HEx
      obtain ⟨ckx, hckx⟩ : ∃ a, (chkImg x).2 = a := ⟨_, rfl⟩
      rw [hckx] at HE1 hde
      rw [hnx] at HE1
      clear hckx hnx
      go_wp2_with (refine wpList_load_agg rfl 26 (.tmp 2) rfl rfl (cs := il) (by rw [HIL.out]; exact agg_image) q1 ?_)
      refine HE1.out.mono ?_
      rintro e w2 ⟨A2, c2, rfl, r2, k2⟩
      have HK2 := Lib.hid (HK1.out.then k2)
      have HK02 := Lib.hid (HK01.out.then k2)
      obtain ⟨ry, hry⟩ : ∃ r, decR ex = r := ⟨_, rfl⟩
      rw [hry] at hde
      obtain ⟨y, fc⟩ := ry
      have HD2 := Lib.hid (dec_knC A2 c2 nx ex w2 HNX.out r2 hin (by omega) (HT.out.keep0 HK2.out) y fc hry)
      clear q1 HE1 k2 r2 hry hin hle HK1 HK01
      go_wp2_with fail
      refine HD2.out.mono ?_
      rintro e w3 ⟨yl, rfl, hy, k3⟩
      have HYL := Lib.hid hy.len
      have HY1 := Lib.hid hy.one
      have HY := Lib.hid hy
      have HK3 := Lib.hid (HK2.out.then k3)
      have HK03 := Lib.hid (HK02.out.then k3)
      clear HD2 hy k3 HK02
      go_wp2_with (refine stop_store 26 (.tmp 7) (.tmp 28) rfl ?_)
      constructor
      refine wpList_store_all rfl 26 (.tmp 7) (.tmp 28) rfl rfl rfl (vs := yl) (by rw [HYL.out]; exact agg_image.2) (Blk.new _ _ _) HY1.out (by rw [HYL.out]; rfl) ?_
      intro w4 d4 k4
      have k34 : Keep [] w3 w4 := ((Keep.refl [] w3).alloc (.cells #[.int .i64 0, .slice none 0 0, .slice none 0 0, .slice none 0 0] 26)).trans k4 (fun y hy h => by simp at hy; omega)
      have HK4 := Lib.hid (HK3.out.then k34)
      have q4 := d4.cellsAt
      have q2 := hc.out _ (HK03.out.then k34)
      have HY4 := Lib.hid (HY.out.keep0 k34)
      obtain ⟨g7, hg7⟩ : ∃ g, g = w3.heap.size := ⟨_, rfl⟩
      rw [← hg7] at q4 ⊢
      clear k34 k4 d4 hg7 HY HK3 HK03
      by_cases hck : ckx = 0
      · subst hck
        rw [if_pos rfl] at hde
        obtain ⟨rfl, rfl⟩ := Prod.mk.inj hde
        have HS := Lib.hid (same_knC (HX.out.keep0 HK4.out) HY4.out)
        rw [decide_eq_true (rfl : y = y)] at HS
        clear hde
        go_wp2_with (first
          | (refine wpList_agg_gd rfl 26 (.tmp 2) rfl rfl (cs := il) (by rw [HIL.out]; exact agg_image) q2 ?_)
          | (refine wpList_agg_gd rfl 26 (.tmp 7) rfl rfl (cs := yl) (by rw [HYL.out]; exact agg_image) q4 ?_))
        refine HS.out.mono ?_
        rintro e w5 ⟨rfl, k5⟩
        have HK5 := Lib.hid (HK4.out.then k5)
        clear HS q2 q4 k5
        go_wp2_with fail
        refine (HDl w5 HK5.out).out.mono ?_
        rintro e w7 ⟨zl, rfl, hz, k7⟩
        have HZL := Lib.hid hz.len
        have HZ1 := Lib.hid hz.one
        have HZ := Lib.hid hz
        have HK7 := Lib.hid (HK5.out.then k7)
        clear HDl hz k7
        go_wp2_with (refine stop_store 26 (.tmp 9) (.tmp 45) rfl ?_)
        constructor
        refine wpList_store_all rfl 26 (.tmp 9) (.tmp 45) rfl rfl rfl (vs := zl) (by rw [HZL.out]; exact agg_image.2) (Blk.new _ _ _) HZ1.out (by rw [HZL.out]; rfl) ?_
        intro w8 d8 k8
        have k78 : Keep [] w7 w8 := ((Keep.refl [] w7).alloc (.cells #[.int .i64 0, .slice none 0 0, .slice none 0 0, .slice none 0 0] 26)).trans k8 (fun y hy h => by simp at hy; omega)
        have HK8 := Lib.hid (HK7.out.then k78)
        have q8 := d8.cellsAt
        have HE8 := enc_knC (HZ.out.keep0 k78) (HT.out.keep0 HK8.out)
        obtain ⟨g9, hg9⟩ : ∃ g, g = w7.heap.size := ⟨_, rfl⟩
        rw [← hg9] at q8 ⊢
        clear k78 k8 d8 hg9 HZ HK7
        rcases hg with rfl | ⟨rfl, hz0, hzl⟩
        · obtain ⟨ck, hck⟩ : ∃ a, (chkImg z).2 = a := ⟨_, rfl⟩
          rw [hck] at HE8
          obtain ⟨ez, hez⟩ : ∃ a, encL z = a := ⟨_, rfl⟩
          rw [hez] at HE8
          obtain ⟨nz, hnz⟩ : ∃ a, ez.length = a := ⟨_, rfl⟩
          rw [hnz] at HE8
          clear hck hez hnz
          go_wp2_with (refine wpList_load_agg rfl 26 (.tmp 9) rfl rfl (cs := zl) (by rw [HZL.out]; exact agg_image) q8 ?_)
          refine HE8.mono ?_
          rintro e w9 ⟨A9, c9, rfl, r9, k9⟩
          have HK9 := Lib.hid (HK8.out.then k9)
          have HA9 := HAl w9 HK9.out
          clear r9 k9 q8
          go_wp2_with fail
          refine HA9.out.mono ?_
          rintro e w10 ⟨rfl, k10⟩
          go_wp2
          go_ret
          exact ⟨rfl, HK9.out.then k10⟩
        · rw [hz0, hzl] at HE8
          go_wp2_with (refine wpList_load_agg rfl 26 (.tmp 9) rfl rfl (cs := zl) (by rw [HZL.out]; exact agg_image) q8 ?_)
          refine HE8.mono ?_
          rintro e w9 ⟨A9, c9, rfl, r9, k9⟩
          have HK9 := Lib.hid (HK8.out.then k9)
          have HRw := HROW w9 HK9.out A9 c9 r9
          clear r9 k9 q8 HROW
          rw [HLN.out] at *
          go_wp2_with fail
          refine HRw.out.mono ?_
          rintro e w10 ⟨rfl, k10⟩
          have HK10 := Lib.hid (HK9.out.then k10)
          have HA10 := HAl w10 HK10.out
          clear HRw k10
          go_wp2_with fail
          refine HA10.out.mono ?_
          rintro e w11 ⟨rfl, k11⟩
          go_wp2
          go_ret
          exact ⟨rfl, HK10.out.then k11⟩
      · have hcn : (ckx == 0) = false := by simpa using hck
        clear hde hck q2 q4
        go_wp2_with fail
        refine (HDl w4 HK4.out).out.mono ?_
        rintro e w7 ⟨zl, rfl, hz, k7⟩
        have HZL := Lib.hid hz.len
        have HZ1 := Lib.hid hz.one
        have HZ := Lib.hid hz
        have HK7 := Lib.hid (HK4.out.then k7)
        clear HDl hz k7
        go_wp2_with (refine stop_store 26 (.tmp 9) (.tmp 45) rfl ?_)
        constructor
        refine wpList_store_all rfl 26 (.tmp 9) (.tmp 45) rfl rfl rfl (vs := zl) (by rw [HZL.out]; exact agg_image.2) (Blk.new _ _ _) HZ1.out (by rw [HZL.out]; rfl) ?_
        intro w8 d8 k8
        have k78 : Keep [] w7 w8 := ((Keep.refl [] w7).alloc (.cells #[.int .i64 0, .slice none 0 0, .slice none 0 0, .slice none 0 0] 26)).trans k8 (fun y hy h => by simp at hy; omega)
        have HK8 := Lib.hid (HK7.out.then k78)
        have q8 := d8.cellsAt
        have HE8 := enc_knC (HZ.out.keep0 k78) (HT.out.keep0 HK8.out)
        obtain ⟨g9, hg9⟩ : ∃ g, g = w7.heap.size := ⟨_, rfl⟩
        rw [← hg9] at q8 ⊢
        clear k78 k8 d8 hg9 HZ HK7
        rcases hg with rfl | ⟨rfl, hz0, hzl⟩
        · obtain ⟨ck, hck⟩ : ∃ a, (chkImg z).2 = a := ⟨_, rfl⟩
          rw [hck] at HE8
          obtain ⟨ez, hez⟩ : ∃ a, encL z = a := ⟨_, rfl⟩
          rw [hez] at HE8
          obtain ⟨nz, hnz⟩ : ∃ a, ez.length = a := ⟨_, rfl⟩
          rw [hnz] at HE8
          clear hck hez hnz
          go_wp2_with (refine wpList_load_agg rfl 26 (.tmp 9) rfl rfl (cs := zl) (by rw [HZL.out]; exact agg_image) q8 ?_)
          refine HE8.mono ?_
          rintro e w9 ⟨A9, c9, rfl, r9, k9⟩
          have HK9 := Lib.hid (HK8.out.then k9)
          have HA9 := HAl w9 HK9.out
          clear r9 k9 q8
          go_wp2_with fail
          refine HA9.out.mono ?_
          rintro e w10 ⟨rfl, k10⟩
          go_wp2
          go_ret
          exact ⟨rfl, HK9.out.then k10⟩
        · rw [hz0, hzl] at HE8
          go_wp2_with (refine wpList_load_agg rfl 26 (.tmp 9) rfl rfl (cs := zl) (by rw [HZL.out]; exact agg_image) q8 ?_)
          refine HE8.mono ?_
          rintro e w9 ⟨A9, c9, rfl, r9, k9⟩
          have HK9 := Lib.hid (HK8.out.then k9)
          have HRw := HROW w9 HK9.out A9 c9 r9
          clear r9 k9 q8 HROW
          rw [HLN.out] at *
          go_wp2_with fail
          refine HRw.out.mono ?_
          rintro e w10 ⟨rfl, k10⟩
          have HK10 := Lib.hid (HK9.out.then k10)
          have HA10 := HAl w10 HK10.out
          clear HRw k10
          go_wp2_with fail
          refine HA10.out.mono ?_
          rintro e w11 ⟨rfl, k11⟩
          go_wp2
          go_ret
          exact ⟨rfl, HK10.out.then k11⟩
  · rw [hgr] at HG
    rw [hn]
    clear hW HROW hEx hn
    go_enter Tryd.func5, Tryd.ntmps5
    go_wp2_with (first | rw [HW0.out] | (refine wpList_load_agg rfl 26 (.tmp 2) rfl rfl (cs := il) (by rw [HIL.out]; exact agg_image) q0 ?_))
    refine HG.out.mono ?_
    rintro e w1 ⟨rfl, k1⟩
    go_wp2
    go_ret
    exact ⟨rfl, K0.out.then k1⟩
end Go.Proofs.YtfgjcjpemlgnmaaDoor
