/- Layer 11: two rows of words; the chapter's example; the law CodecWrites. Condition: the table of math/bits lies where the program's text lays it. -/
import Derived.Test.YtfgjcjpemlgnmaaDoorCwRef
import Derived.Test.YtfgjcjpemlgnmaaDoorImgRC
namespace Go.Proofs.YtfgjcjpemlgnmaaDoor
open Go.RowKit

def uw (l : List Int) : List Value := l.map (fun n => Value.int .u32 n)
theorem uw_len (l : List Int) : (uw l).length = l.length := List.length_map ..
theorem wordV_uw (l : List Int) : wordV l = uw (l.map (· % 4294967296)) := by
  unfold wordV uw
  rw [List.map_map]; rfl
theorem uw_at {w : World} {A : Option Addr} {l : List Int} (h : Reads w 1 A l.length (uw l)) (h0 : 0 < l.length) : ∃ b o, A = some ⟨b, o, none⟩ ∧ b < w.heap.size ∧ ∀ k, (hk : k < l.length) → w.cell? ⟨b, o + k, none⟩ = some (.int .u32 l[k]) := by
  obtain ⟨b, o, e, hb, hc⟩ := h.addr h0
  exact ⟨b, o, e, hb, fun k hk => hc k _ (by rw [uw, List.getElem?_map, List.getElem?_eq_getElem hk]; rfl)⟩

set_option maxRecDepth 100000 in
set_option maxHeartbeats 1000000 in
theorem row_any (A B : Option Addr) (c d : Nat) (la lb : List Int) (w : World) (hA : Reads w 1 A la.length (uw la)) (hB : Reads w 1 B lb.length (uw lb)) (ha : la.length ≤ 100000) (hb : lb.length ≤ 100000) :
    Calls Tryd.prog 10 #[.slice A la.length c, .slice B lb.length d] w fun e w' => e = .returned (.bool (decide (la = lb))) ∧ Keep [] w w' := by
  by_cases hl : la.length = lb.length
  · have hln : ((la.length : Int) != (lb.length : Int)) = false := by simp; omega
    have HA := Lib.hid hA
    have HB := Lib.hid hB
    have HL := Lib.hid hl
    clear hA hB
    go_enter Tryd.func10, Tryd.ntmps10
    clear hl
    go_wp2
    clear hln
    go_loopw [5] (fun vi wr => ∃ k : Nat, k ≤ la.length ∧ vi = .int .i64 (k : Int) ∧ la.take k = lb.take k ∧ Keep [] w wr) (fun vi _ => la.length - (intOf vi).toNat)
    case atStart => exact ⟨0, Nat.zero_le _, rfl, rfl, Keep.refl _ _⟩
    case round =>
      obtain ⟨k, hk, rfl, ht, hK⟩ := hrel
      by_cases hlt : k < la.length
      · have hl2 := HL.out
        have hlt2 : k < lb.length := by omega
        obtain ⟨b1, o1, hA1, hb1, hc1⟩ := uw_at (HA.out.keep0 hK) (by omega)
        obtain ⟨b2, o2, hB1, hb2, hc2⟩ := uw_at (HB.out.keep0 hK) (by omega)
        have q1 := hc1 k hlt
        have q2 := hc2 k hlt2
        have HT1 : Hid (la.take (k + 1) = la.take k ++ [la[k]]) := by show _ = _; rw [List.take_succ_eq_append_getElem hlt]
        have HT2 : Hid (lb.take (k + 1) = lb.take k ++ [lb[k]]) := by show _ = _; rw [List.take_succ_eq_append_getElem hlt2]
        have HNE : Hid (la[k] ≠ lb[k] → la ≠ lb) := fun h e => h (by subst e; rfl)
        have hk0 : (0 : Int) ≤ (k : Int) := by omega
        have hk1 : (k : Int) < (la.length : Int) := by omega
        have hk2 : (k : Int) < (lb.length : Int) := by omega
        have hF : ∀ w', Keep [] wr w' → w'.cell? ⟨b1, o1 + k, none⟩ = some (.int .u32 la[k]) ∧ w'.cell? ⟨b2, o2 + k, none⟩ = some (.int .u32 lb[k]) := fun w' hk' => ⟨(hk'.cell (p := ⟨b1, o1 + k, none⟩) hb1 (by simp)).trans q1, (hk'.cell (p := ⟨b2, o2 + k, none⟩) hb2 (by simp)).trans q2⟩
        rw [hA1, hB1] at *
        clear hc1 hc2 q1 q2 hl2
        generalize la[k] = ya at *
        generalize lb[k] = yb at *
        go_wp2
        refine wp_region_flow (Keep [] wr) rfl (by kernel_rfl) (Keep.refl _ _).drew ?_
        repeat (refine fl_val (v := ?_) (by rfl) ?_ ?_; rotate_left; (intro w' hS; obtain ⟨f1,f2⟩ := hF w' hS; go_simp; with_reducible rfl); simp only [Act.put, List.setIfInBounds_toArray, List.set_cons_zero, List.set_cons_succ])
        refine fl_nil ?_
        intro w' hS
        clear hF
        by_cases he : ya = yb
        · have hn : (ya != yb) = false := by simpa using he
          go_wp2
          go_roundw
          case rel => exact ⟨k + 1, by omega, by go_num, by rw [HT1.out, HT2.out, ht, he], hK.then hS⟩
          case measure => simp [intOf] <;> omega
        · have hn : (ya != yb) = true := by simpa using he
          have HD : Hid (decide (la = lb) = false) := by show _ = _; exact decide_eq_false (HNE.out he)
          clear he
          go_wp2
          go_ret
          exact ⟨by rw [HD.out]; rfl, hK.then hS⟩
      · obtain rfl : k = la.length := by omega
        have HD : Hid (decide (la = lb) = true) := by
          show _ = _
          rw [List.take_length, List.take_of_length_le (by have := HL.out; omega)] at ht
          exact decide_eq_true ht
        clear ht
        go_wp2
        go_ret
        exact ⟨by rw [HD.out]; rfl, hK⟩
  · have hln : ((la.length : Int) != (lb.length : Int)) = true := by simp; omega
    have HD : Hid (decide (la = lb) = false) := by show _ = _; exact decide_eq_false (fun e => hl (by rw [e]))
    clear hl hA hB
    go_enter Tryd.func10, Tryd.ntmps10
    go_wp2
    go_ret
    exact ⟨by rw [HD.out]; rfl, Keep.refl _ _⟩
theorem row_same (A B : Option Addr) (c d n m : Nat) (la : List Int) (w : World) (hn : la.length = n) (hm : la.length = m) (hA : Reads w 1 A n (uw la)) (hB : Reads w 1 B m (uw la)) (ha : n ≤ 100000) :
    Calls Tryd.prog 10 #[.slice A n c, .slice B m d] w fun e w' => e = .returned (.bool true) ∧ Keep [] w w' := by
  subst hn hm
  exact (row_any A B c d la la w hA hB ha ha).mono (fun e w' h => ⟨by rw [h.1, decide_eq_true rfl], h.2⟩)
theorem row_n (A B : Option Addr) (c d n m : Nat) (la lb : List Int) (w : World) (hn : la.length = n) (hm : lb.length = m) (hA : Reads w 1 A n (uw la)) (hB : Reads w 1 B m (uw lb)) (ha : n ≤ 100000) (hb : m ≤ 100000) :
    Calls Tryd.prog 10 #[.slice A n c, .slice B m d] w fun e w' => e = .returned (.bool (decide (la = lb))) ∧ Keep [] w w' := by
  subst hn hm
  exact row_any A B c d la lb w hA hB ha hb

/-- The chapter's example. -/
def ex11 : Img := ⟨0, [⟨10, 8, 2, [0, 0, 0, 0, 0, 0, 0, 0]⟩], [⟨1, []⟩], []⟩
def ex11V (B : Nat) : ImgV := ⟨some ⟨B, 0, none⟩, 1, some ⟨B + 1, 0, none⟩, 1, none, 0, [(none, 0)]⟩
def ex11W : List Int := [1380273457, 0, 1, 1, 0, 10, 8, 2, 0, 1, 0]
theorem ex11_at {w : World} {B : Nat} (h1 : Blk w B 57 (ex11.tasks.flatMap tskCells).toArray) (h2 : Blk w (B + 1) 47 #[.int .u32 1, .slice none 0 0]) : ImgAt w (ex11V B) ex11 :=
  ⟨⟨by simp [ex11], by simp [ex11], by simp [ex11], by simp [ex11]⟩, rfl, ⟨rfl, fun _ => ⟨B, 0, rfl, h1.lt, fun j u hu => by rw [Nat.zero_add]; exact h1.at_ hu⟩⟩,
    ⟨rfl, fun _ => ⟨B + 1, 0, rfl, h2.lt, fun j u hu => by rw [Nat.zero_add]; exact Blk.at_ (l := [.int .u32 1, .slice none 0 0]) h2 hu⟩⟩, Reads.none_, fun i h h' => by
    have : i = 0 := by simp [ex11] at h; omega
    subst this
    exact Reads.none_, by simp [ex11, maxLen], by simp [ex11, maxLen], by simp [ex11, maxLen], by simp [ex11, maxLen]⟩
theorem ex11_enc : encW ex11 = ex11W ∧ (chkImg ex11).2 = 0 ∧ ex11W.map (· % 4294967296) = ex11W := ⟨by kernel_rfl, by kernel_rfl, by kernel_rfl⟩

set_option maxRecDepth 100000 in
set_option maxHeartbeats 2000000 in
theorem alive11 (w : World) (hT : Tab w) : Calls Tryd.prog 11 #[] w fun e w' => e = .returned (.bool true) ∧ Keep [] w w' := by
  have b1 := (Blk.new w 57 (ex11.tasks.flatMap tskCells).toArray).alloc (.cells #[.int .u32 1, .slice none 0 0] 47)
  have b2 := Blk.new1 w (.cells (ex11.tasks.flatMap tskCells).toArray 57) 47 #[.int .u32 1, .slice none 0 0]
  have K0 := ((Keep.refl [] w).alloc (.cells (ex11.tasks.flatMap tskCells).toArray 57)).alloc (.cells #[.int .u32 1, .slice none 0 0] 47)
  obtain ⟨W0, hW0⟩ : ∃ W0, (w.alloc (.cells (ex11.tasks.flatMap tskCells).toArray 57)).alloc (.cells #[.int .u32 1, .slice none 0 0] 47) = W0 := ⟨_, rfl⟩
  rw [hW0] at b1 b2 K0
  have hW : Hid ((w.alloc (.cells #[.int .i64 10, .int .i64 8, .int .i64 2, .int .i64 0, .int .i64 0, .int .i64 0, .int .i64 0, .int .i64 0, .int .i64 0, .int .i64 0, .int .i64 0] 57)).alloc (.cells #[.int .u32 1, .slice none 0 0] 47) = W0) := hW0
  clear hW0
  have HE : Calls Tryd.prog 7 #[.agg (imgCells (ex11V w.heap.size) ex11).toArray] W0 (RetW W0 ex11W 0) := by
    have := encode_any (ex11V w.heap.size) ex11 W0 (ex11_at b1 b2) (hT.keep0 K0)
    rwa [ex11_enc.1, ex11_enc.2.1] at this
  have HEh := Lib.hid HE
  have HK := Lib.hid K0
  clear b1 b2 K0 HE hT
  go_enter Tryd.func11, Tryd.ntmps11
  go_wp2_with (rw [hW.out])
  refine HEh.out.mono ?_
  rintro e w1 ⟨A, c, rfl, o1, k1⟩
  have HL : Hid (ex11W.length = 11) := show _ = _ from rfl
  obtain ⟨W2, hW2⟩ : ∃ W2, w1.alloc (.cells (uw ex11W).toArray 44) = W2 := ⟨_, rfl⟩
  have K2 : Keep [] w1 W2 := by rw [← hW2]; exact (Keep.refl _ w1).alloc _
  have B2 : Blk W2 w1.heap.size 44 (uw ex11W).toArray := by rw [← hW2]; exact Blk.new _ _ _
  have r1 : Reads W2 1 A ex11W.length (uw ex11W) := by
    have := Reads.of_own (own_keep0 o1 K2)
    rwa [wordV_uw, ex11_enc.2.2] at this
  have HRw := Lib.hid (row_same A (some ⟨w1.heap.size, 0, none⟩) c 11 ex11W.length 11 ex11W W2 rfl rfl r1 (by have := reads_blk B2; rwa [uw_len] at this) (by decide))
  have hW3 : Hid (w1.alloc (.cells #[.int .u32 1380273457, .int .u32 0, .int .u32 1, .int .u32 1, .int .u32 0, .int .u32 10, .int .u32 8, .int .u32 2, .int .u32 0, .int .u32 1, .int .u32 0] 44) = W2) := hW2
  have HK2 := Lib.hid (HK.out.then (k1.then K2))
  clear hW2 r1 B2 K2 o1 k1 HEh HL
  generalize ex11W.length = n11 at *
  go_wp2_with (rw [hW3.out])
  refine HRw.out.mono ?_
  rintro e w3 ⟨rfl, k3⟩
  go_wp2
  go_ret
  exact ⟨rfl, HK2.out.then k3⟩

set_option maxRecDepth 100000 in
set_option maxHeartbeats 2000000 in
theorem codecWrites_any (v : ImgV) (x : Img) (w : World) (hT : Tab w) (h : ImgAt w v x) : Calls Tryd.prog 3 #[.agg (imgCells v x).toArray] w fun e w' => e = .returned (.bool true) ∧ Keep [] w w' := by
  have b0 := img_box w v x
  have K0 := (Keep.refl [] w).alloc (.cells (imgCells v x).toArray 26)
  obtain ⟨W1, hW1⟩ : ∃ W1, w.alloc (.cells (imgCells v x).toArray 26) = W1 := ⟨_, rfl⟩
  rw [hW1] at b0 K0
  have HIL : Hid ((imgCells v x).length = 4) := show _ = _ from rfl
  have HW := Lib.hid hW1
  have HCA := fun W (hk : Keep [] W1 W) => Lib.hid (b0.keep0 hk).cellsAt
  have HG := Lib.hid (great_any v x W1 (h.keep0 K0))
  have HEn := fun W (hk : Keep [] W1 W) => Lib.hid (encode_any v x W (h.keep0 (K0.then hk)) (hT.keep0 (K0.then hk)))
  have HCk := fun W (hk : Keep [] W1 W) => Lib.hid (rcheck_any v x W (h.keep0 (K0.then hk)))
  have HRe := fun W (hk : Keep [] W1 W) hr => Lib.hid (rencode_any v x W (h.keep0 (K0.then hk)) hr)
  have HAl := fun W (hk : Keep [] W1 W) => Lib.hid (alive11 W (hT.keep0 (K0.then hk)))
  have HRT : Hid ((chkImg x).2 = 0 → RightI x) := right_of
  have HWL : Hid (RightI x → (wordsI x).length ≤ 2000) := fun hr => hr.words_len h.ok
  have HEW : Hid (encW x = if (chkImg x).2 = 0 then wordsI x else []) := show _ = _ from rfl
  have HK := Lib.hid K0
  clear h hT hW1 K0 b0
  generalize chkImg x = cr at *
  obtain ⟨cr1, cr2⟩ := cr
  generalize imgCells v x = il at *
  cases hg : greatImg x
  · rw [hg] at HG
    go_enter Tryd.func3, Tryd.ntmps3
    have q0 := (HCA W1 (Keep.refl _ _)).out
    go_wp2_with (first | rw [HW.out] | (refine wpList_load_agg rfl 26 (.tmp 1) rfl rfl (cs := il) (by rw [HIL.out]; exact agg_image) q0 ?_))
    refine HG.out.mono ?_
    rintro e w1 ⟨rfl, k1⟩
    have q1 := Lib.hid (HCA w1 k1).out
    have HE1 := HEn w1 k1
    have k1' := Lib.hid k1
    clear HG q0 k1
    go_wp2_with (refine wpList_load_agg rfl 26 (.tmp 1) rfl rfl (cs := il) (by rw [HIL.out]; exact agg_image) q1.out ?_)
    refine HE1.out.mono ?_
    rintro e w2 ⟨A, c, rfl, o2, k2⟩
    have HK2 := Lib.hid (k1'.out.then k2)
    have q2 := Lib.hid (HCA w2 HK2.out).out
    have HC2 := HCk w2 HK2.out
    have HO2 := Lib.hid o2
    clear HE1 q1 k2 o2
    go_wp2_with (refine wpList_load_agg rfl 26 (.tmp 1) rfl rfl (cs := il) (by rw [HIL.out]; exact agg_image) q2.out ?_)
    refine HC2.out.mono ?_
    rintro e w3 ⟨rfl, k3⟩
    rw [chkRes]
    have HK3 := Lib.hid (HK2.out.then k3)
    have HO3 := Lib.hid (own_keep0 HO2.out k3)
    clear HC2 q2 k3 HO2
    by_cases hc : cr2 = 0
    · have HR := Lib.hid (HRT.out hc)
      have HE : Hid (encW x = wordsI x) := by show _ = _; rw [HEW.out, if_pos hc]
      have HL := Lib.hid (HWL.out HR.out)
      have q3 := Lib.hid (HCA w3 HK3.out).out
      have HR3 := HRe w3 HK3.out HR.out
      subst hc
      rw [HE.out] at HO3 ⊢
      clear HRT HWL HE HEW
      generalize wordsI x = l at *
      go_wp2_with (refine wpList_load_agg rfl 26 (.tmp 1) rfl rfl (cs := il) (by rw [HIL.out]; exact agg_image) q3.out ?_)
      refine HR3.out.mono ?_
      rintro e w4 ⟨B, d, rfl, o4, k4⟩
      have HK4 := Lib.hid (HK3.out.then k4)
      have HRw := Lib.hid (row_same A B c d l.length l.length (l.map (· % 4294967296)) w4 (by simp) (by simp) (by have := Reads.of_own (own_keep0 HO3.out k4); rwa [wordV_uw] at this) (by have := Reads.of_own o4; rwa [wordV_uw] at this) (by have := HL.out; omega))
      clear HR3 q3 k4 o4
      generalize l.length = n at *
      go_wp2_with fail
      refine HRw.out.mono ?_
      rintro e w5 ⟨rfl, k5⟩
      have HK5 := Lib.hid (HK4.out.then k5)
      have HA5 := HAl w5 HK5.out
      clear HRw k5
      go_wp2_with fail
      refine HA5.out.mono ?_
      rintro e w6 ⟨rfl, k6⟩
      go_wp2
      go_ret
      exact ⟨rfl, HK.out.then (HK5.out.then k6)⟩
    · have hcn : (cr2 == 0) = false := by simpa using hc
      have HE : Hid (encW x = []) := by show _ = _; rw [HEW.out, if_neg hc]
      rw [HE.out] at HO3 ⊢
      have HRw := Lib.hid (row_same A none c 0 ([] : List Int).length 0 [] w3 rfl rfl (by have := Reads.of_own HO3.out; exact this) Reads.none_ (by simp))
      clear HRT HWL HE HEW hc HO3
      generalize ([] : List Int).length = n at *
      go_wp2_with fail
      refine HRw.out.mono ?_
      rintro e w5 ⟨rfl, k5⟩
      have HK5 := Lib.hid (HK3.out.then k5)
      have HA5 := HAl w5 HK5.out
      clear HRw k5
      go_wp2_with fail
      refine HA5.out.mono ?_
      rintro e w6 ⟨rfl, k6⟩
      go_wp2
      go_ret
      exact ⟨rfl, HK.out.then (HK5.out.then k6)⟩
  · rw [hg] at HG
    go_enter Tryd.func3, Tryd.ntmps3
    have q0 := (HCA W1 (Keep.refl _ _)).out
    go_wp2_with (first | rw [HW.out] | (refine wpList_load_agg rfl 26 (.tmp 1) rfl rfl (cs := il) (by rw [HIL.out]; exact agg_image) q0 ?_))
    refine HG.out.mono ?_
    rintro e w1 ⟨rfl, k1⟩
    go_wp2
    go_ret
    exact ⟨rfl, HK.out.then k1⟩
end Go.Proofs.YtfgjcjpemlgnmaaDoor
