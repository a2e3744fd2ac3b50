/- The numbers of pieces, as the document reads them; walked. Condition: short pieces. The words of policies and protocols, as the document reads them; walked. No condition. A piece cut at its first sign, as the document reads it; walked. Condition: a short piece. A task of pieces, as the document reads it; walked. Condition: short pieces. -/
import Derived.Test.YtoepkhkaifgddaaSrcPr
import Derived.Test.YtoepkhkaifgddaaStRSect
namespace Go.Proofs.Ytoepkhkaifgddaa
open Go.RowKit

theorem slice_intN : SliceOf Try.prog 90 3 1 8 := ⟨Try.underlying90, by kernel_rfl, by decide⟩
def valsL (ps : List ByteArray) : List Int := ps.map (fun p => (readP (bytesOf p)).1)
def numL (ps : List ByteArray) : Option (List Int) := if ∀ p ∈ ps, (readP (bytesOf p)).2 = 0 then some (valsL ps) else none
/-- What numbers answers. -/
def NumPost (w : World) (r : Option (List Int)) (e : Ending) (w' : World) : Prop :=
  Keep [] w w' ∧ match r with
    | none => e = .returned (.tuple #[.slice none 0 0, .bool false])
    | some l => ∃ V, e = .returned (.tuple #[V, .bool true]) ∧ w'.ownsRow w.heap.size 3 1 V l.length (iv l)
structure OwnN (w0 w : World) (V : Value) (l : List Int) : Prop where
  row : w.ownsRow w0.heap.size 3 1 V l.length (iv l)
  keep : Keep [] w0 w
theorem OwnN.nil (w : World) : OwnN w w (.slice none 0 0) [] := ⟨World.ownsRow_nil _ _ _ _, Keep.refl _ _⟩
theorem OwnN.keep0 {w0 w w' : World} {V : Value} {l : List Int} (h : OwnN w0 w V l) (k : Keep [] w w') : OwnN w0 w' V l := ⟨own_keep h.row k (by simp), h.keep.then k⟩
theorem OwnN.app {w0 w w' : World} {V V' : Value} {l : List Int} {a : Int} (h : OwnN w0 w V l) (k : Keep V.ownBlock.toList w w') (h' : w'.ownsRow w0.heap.size 3 1 V' (l.length + 1) (iv l ++ [.int .i64 a])) : OwnN w0 w' V' (l ++ [a]) :=
  ⟨by simpa [iv] using h', h.keep.trans k (fun x hx hlt => by have := (h.row.lt x (by simpa using hx)).1; omega)⟩

set_option maxRecDepth 100000 in
set_option maxHeartbeats 1000000 in
theorem rnumbers_any (A : Option Addr) (c : Nat) (ps : List ByteArray) (w : World) (h : Reads w 1 A ps.length (strs ps)) (hl : ps.length ≤ 1000001) (hz : ∀ p ∈ ps, p.size ≤ 1000000) :
    Calls Try.prog 73 #[.slice A ps.length c] w (NumPost w (numL ps)) := by
  have HR := fun W k (hk : k < ps.length) => Lib.hid (rread_fix ps[k] W (hz _ (List.getElem_mem hk)))
  have HP : Hid (∀ k, (hk : k < ps.length) → ∃ b o, A = some ⟨b, o, none⟩ ∧ ∀ W, Keep [] w W → W.cell? ⟨b, o + k, none⟩ = some (.string ps[k])) := fun k hk => by
    obtain ⟨b, o, e, hb, hc⟩ := h.addr (by omega)
    refine ⟨b, o, e, fun W hk2 => ?_⟩
    rw [hk2.cell hb (by simp)]
    exact hc k _ (by simp [strs, hk])
  clear h
  go_enter Try.func73, Try.ntmps73
  go_wp2
  go_loopw [4, 5] (fun V vi wr => ∃ k : Nat, k ≤ ps.length ∧ vi = .int .i64 (k : Int) ∧ OwnN w wr V (valsL (ps.take k)) ∧ ∀ p ∈ ps.take k, (readP (bytesOf p)).2 = 0) (fun _ vi _ => ps.length - (intOf vi).toNat)
  case atStart => exact ⟨0, Nat.zero_le _, rfl, OwnN.nil w, by simp⟩
  case round =>
    obtain ⟨k, hk, rfl, hO, hall⟩ := hrel
    by_cases hlt : k < ps.length
    · obtain ⟨b, o, rfl, hcell⟩ := HP.out k hlt
      have hc := hcell wr hO.keep
      have hk1 : (k : Int) < (ps.length : Int) := by omega
      have HRk := HR wr k hlt
      have HT : Hid (ps.take (k + 1) = ps.take k ++ [ps[k]]) := List.take_succ_eq_append_getElem hlt
      obtain ⟨q, hq⟩ : ∃ q, readP (bytesOf ps[k]) = q := ⟨_, rfl⟩
      rw [hq] at HRk
      obtain ⟨n, er⟩ := q
      dsimp only at HRk
      have HQ := Lib.hid hq
      have HALL := Lib.hid hall
      have hvl : (valsL (ps.take k)).length = k := by simp [valsL]; omega
      clear hq hcell HR HP hall
      by_cases h0 : er = 0
      · subst h0
        have hrow0 := fun W (hk : Keep [] wr W) => Lib.hid (hO.keep0 hk)
        clear hO
        go_wp2_with (first
          | (refine HRk.out.mono ?_; clear HRk; rintro e w1 ⟨rfl, k1⟩; have hO := (hrow0 w1 k1).out; have hrow := hO.row; have hsz := hO.keep.size; rw [hvl] at hrow)
          | (at_builtin; refine wpList_append_one rfl (.tmp 24) (.tmp 26) 90 rfl slice_intN hrow rfl rfl (us := [.int .i64 n]) rfl (by simp [Value.oneCell']) hsz (by omega) (by unfold maxLen; omega) ?_; intro v' w2 hown1 hgrow1 hat1))
        go_roundw
        case rel =>
          refine ⟨k + 1, by omega, by go_num, ?_, ?_⟩
          · rw [HT.out]
            have : valsL (ps.take k ++ [ps[k]]) = valsL (ps.take k) ++ [n] := by simp only [valsL, List.map_append, List.map_cons, List.map_nil, HQ.out]
            rw [this]
            exact hO.app hgrow1 (by rw [hvl]; exact hown1)
          · rw [HT.out]
            intro p hp
            rcases List.mem_append.1 hp with hp | hp
            · exact HALL.out p hp
            · rw [List.mem_singleton] at hp; rw [hp, HQ.out]
        case measure => simp [intOf]; omega
      · have hb : (er != 0) = true := by simpa using h0
        have HK := Lib.hid hO.keep
        clear hO
        go_wp2_with (refine HRk.out.mono ?_; clear HRk; rintro e w1 ⟨rfl, k1⟩)
        go_ret2
        refine ⟨HK.out.then k1, ?_⟩
        unfold numL
        rw [if_neg (fun hh => h0 (by have := hh _ (List.getElem_mem hlt); rw [HQ.out] at this; exact this))]
        rfl
    · obtain rfl : k = ps.length := by omega
      have H := Lib.hid hO
      have HALL := Lib.hid hall
      rw [List.take_of_length_le (Nat.le_refl _)] at H HALL
      clear hO hall
      go_wp2
      go_ret2
      refine ⟨H.out.keep, ?_⟩
      unfold numL
      rw [if_pos HALL.out]
      exact ⟨_, rfl, H.out.row⟩
end Go.Proofs.Ytoepkhkaifgddaa

namespace Go.Proofs.Ytoepkhkaifgddaa
open Go.RowKit

theorem strOf_mk (l : List UInt8) : ∃ S : ByteArray, strOf l = .string S ∧ bytesOf S = l := ⟨{ data := l.toArray }, rfl, by simp [bytesOf]⟩


set_option maxRecDepth 100000 in
set_option maxHeartbeats 1000000 in
theorem rword1_any (s : ByteArray) (w : World) :
    Calls Try.prog 77 #[.string s, .int .i64 1] w fun e w' => e = .returned (.int .i64 (wordP polW s)) ∧ Keep [] w w' := by
  have HW := fun (k : Nat) W => Lib.hid (rpolicy_any (k : Int) W)
  go_enter Try.func77, Try.ntmps77
  go_wp2
  go_loopw [5] (fun vi wr => ∃ k : Nat, 1 ≤ k ∧ k ≤ 4 ∧ vi = .int .i64 (k : Int) ∧ Keep [] w wr ∧ ∀ j : Nat, 1 ≤ j → j < k → bytesOf s ≠ polW j) (fun vi _ => 4 - (intOf vi).toNat)
  case atStart => exact ⟨1, Nat.le_refl _, by omega, rfl, Keep.refl _ _, fun j h1 h2 => by omega⟩
  case round =>
    obtain ⟨k, h1, h4, rfl, hk, hn⟩ := hrel
    by_cases hlt : k ≤ 3
    · have hk3 : (k : Int) ≤ 3 := by omega
      have HC := HW k wr
      obtain ⟨S, hS, hSb⟩ := strOf_mk (polW k)
      rw [hS] at HC
      have HB := Lib.hid hSb
      have HN := Lib.hid hn
      have HK := Lib.hid hk
      clear HW hS hSb hn hk
      have hq : (S.toList == s.toList) = decide (bytesOf s = polW k) := by rw [toList_beq, HB.out]; exact decide_eq_decide.2 eq_comm
      by_cases he : bytesOf s = polW k
      · rw [decide_eq_true he] at hq
        have HE := Lib.hid he
        clear he
        go_wp2_with (refine HC.out.mono ?_; clear HC; rintro e w1 ⟨rfl, k1⟩)
        go_ret
        exact ⟨by rw [wordP_one ⟨h1, hlt⟩ HE.out HN.out]; rfl, HK.out.then k1⟩
      · rw [decide_eq_false he] at hq
        have HE := Lib.hid he
        clear he
        go_wp2_with (refine HC.out.mono ?_; clear HC; rintro e w1 ⟨rfl, k1⟩)
        go_roundw
        case rel =>
          refine ⟨k + 1, by omega, by omega, by go_num, HK.out.then k1, fun j hj1 hj2 => ?_⟩
          by_cases hjk : j = k
          · subst hjk; exact HE.out
          · exact HN.out j hj1 (by omega)
        case measure => simp [intOf]; omega
    · obtain rfl : k = 4 := by omega
      have HN := Lib.hid hn
      have HK := Lib.hid hk
      clear hn hk
      go_wp2
      go_ret
      exact ⟨by rw [wordP_zero HN.out]; rfl, HK.out⟩

set_option maxRecDepth 100000 in
set_option maxHeartbeats 1000000 in
theorem rword2_any (s : ByteArray) (w : World) :
    Calls Try.prog 77 #[.string s, .int .i64 2] w fun e w' => e = .returned (.int .i64 (wordP proW s)) ∧ Keep [] w w' := by
  have HW := fun (k : Nat) W => Lib.hid (rprotocol_any (k : Int) W)
  go_enter Try.func77, Try.ntmps77
  go_wp2
  go_loopw [5] (fun vi wr => ∃ k : Nat, 1 ≤ k ∧ k ≤ 4 ∧ vi = .int .i64 (k : Int) ∧ Keep [] w wr ∧ ∀ j : Nat, 1 ≤ j → j < k → bytesOf s ≠ proW j) (fun vi _ => 4 - (intOf vi).toNat)
  case atStart => exact ⟨1, Nat.le_refl _, by omega, rfl, Keep.refl _ _, fun j h1 h2 => by omega⟩
  case round =>
    obtain ⟨k, h1, h4, rfl, hk, hn⟩ := hrel
    by_cases hlt : k ≤ 3
    · have hk3 : (k : Int) ≤ 3 := by omega
      have HC := HW k wr
      obtain ⟨S, hS, hSb⟩ := strOf_mk (proW k)
      rw [hS] at HC
      have HB := Lib.hid hSb
      have HN := Lib.hid hn
      have HK := Lib.hid hk
      clear HW hS hSb hn hk
      have hq : (S.toList == s.toList) = decide (bytesOf s = proW k) := by rw [toList_beq, HB.out]; exact decide_eq_decide.2 eq_comm
      by_cases he : bytesOf s = proW k
      · rw [decide_eq_true he] at hq
        have HE := Lib.hid he
        clear he
        go_wp2_with (refine HC.out.mono ?_; clear HC; rintro e w1 ⟨rfl, k1⟩)
        go_ret
        exact ⟨by rw [wordP_one ⟨h1, hlt⟩ HE.out HN.out]; rfl, HK.out.then k1⟩
      · rw [decide_eq_false he] at hq
        have HE := Lib.hid he
        clear he
        go_wp2_with (refine HC.out.mono ?_; clear HC; rintro e w1 ⟨rfl, k1⟩)
        go_roundw
        case rel =>
          refine ⟨k + 1, by omega, by omega, by go_num, HK.out.then k1, fun j hj1 hj2 => ?_⟩
          by_cases hjk : j = k
          · subst hjk; exact HE.out
          · exact HN.out j hj1 (by omega)
        case measure => simp [intOf]; omega
    · obtain rfl : k = 4 := by omega
      have HN := Lib.hid hn
      have HK := Lib.hid hk
      clear hn hk
      go_wp2
      go_ret
      exact ⟨by rw [wordP_zero HN.out]; rfl, HK.out⟩
end Go.Proofs.Ytoepkhkaifgddaa

namespace Go.Proofs.Ytoepkhkaifgddaa
open Go.RowKit

def cutP (sg : Nat) (most : Int) (s : ByteArray) : Int × Int × Bool :=
  if (splitB s sg).2.2 = true ∧ (readP (bytesOf (splitB s sg).1)).2 = 0 ∧ (readP (bytesOf (splitB s sg).2.1)).2 = 0 ∧ (readP (bytesOf (splitB s sg).1)).1 < most ∧ (readP (bytesOf (splitB s sg).2.1)).1 ≠ 0
    then ((readP (bytesOf (splitB s sg).1)).1, (readP (bytesOf (splitB s sg).2.1)).1, true) else (0, 0, false)
theorem numL_two (l r : ByteArray) : numL [l, r] = if (readP (bytesOf l)).2 = 0 ∧ (readP (bytesOf r)).2 = 0 then some [(readP (bytesOf l)).1, (readP (bytesOf r)).1] else none := by
  unfold numL valsL
  simp

set_option maxRecDepth 100000 in
set_option maxHeartbeats 4000000 in
theorem rcut_any (p : ByteArray) (c : Nat) (hc : c < 256) (most : Int) (hp : p.size ≤ 1000000) (w : World) :
    Calls Try.prog 90 #[.string p, .int .u8 (c : Int), .int .i64 most] w fun e w' => e = .returned (.tuple #[.int .i64 (cutP c most p).1, .int .i64 (cutP c most p).2.1, .bool (cutP c most p).2.2]) ∧ Keep [] w w' := by
  have H1 : Hid (∀ i, (h : i < p.size) → p[i].toNat = c → (∀ j, j < i → (h : j < p.size) → p[j].toNat ≠ c) → splitB p (c : Int) = (p.extract 0 i, p.extract (i + 1) p.size, true)) := fun i h he hn => by
    have := idxB_at p c hc i h he hn
    unfold splitB
    rw [this, if_pos (by omega)]
    simp
  have H0 : Hid ((∀ j, (h : j < p.size) → p[j].toNat ≠ c) → splitB p (c : Int) = ({ data := #[] }, { data := #[] }, false)) := fun hn => by
    unfold splitB
    rw [if_neg (idxB_none p c hc hn)]
  obtain ⟨res, hres⟩ : ∃ r, cutP c most p = r := ⟨_, rfl⟩
  rw [hres]
  have HCP := Lib.hid hres
  unfold cutP at HCP
  clear hres
  generalize splitB p (c : Int) = sp at *
  go_enter Try.func90, Try.ntmps90
  go_wp2
  go_loopw [9] (fun v9 wr => ∃ i : Nat, i ≤ p.size ∧ v9 = .int .i64 (i : Int) ∧ (∀ j, j < i → (h : j < p.size) → p[j].toNat ≠ c) ∧ w = wr) (fun v9 _ => p.size - (intOf v9).toNat)
  case atStart => exact ⟨0, Nat.zero_le _, rfl, fun j h => absurd h (by omega), rfl⟩
  case round =>
    obtain ⟨i, hi, rfl, hn, rfl⟩ := hrel
    by_cases hlt : i < p.size
    · by_cases he : p[i].toNat = c
      · have h1 : ((p[i].toNat : Int) != (c : Int)) = false := by simp [he]
        have h2 := Lib.hid (H1.out i hlt he hn)
        have q2 : (i : Int) + 1 ≤ p.size := by omega
        have q3 : (i : Int) ≤ p.size := by omega
        have q4 : (0 : Int) ≤ (i : Int) := by omega
        have q5 : (i : Int) < p.size := by omega
        have q6 : ((i : Int) == (p.size : Int)) = false := by rw [beq_eq_false_iff_ne]; omega
        have q7 : IntKind.i64.wrap ((i : Int) + 1) = (i : Int) + 1 := IntWalk.i64_in _ (by omega)
        have q8 : ((i : Int) + 1).toNat = i + 1 := by omega
        have q9 : (0 : Int) ≤ (i : Int) + 1 := by omega
        obtain ⟨L, hL⟩ : ∃ L, p.extract 0 i = L := ⟨_, rfl⟩
        obtain ⟨R, hR⟩ : ∃ R, p.extract (i + 1) p.size = R := ⟨_, rfl⟩
        have hzL : L.size ≤ 1000000 := by rw [← hL, ByteArray.size_extract]; omega
        have hzR : R.size ≤ 1000000 := by rw [← hR, ByteArray.size_extract]; omega
        rw [hL, hR] at h2
        have HNM := fun (W : World) g (hr : Reads W 1 (some ⟨g, 0, none⟩) 2 (strs [L, R])) => Lib.hid (rnumbers_any (some ⟨g, 0, none⟩) 2 [L, R] W hr (by simp) (by intro q hq; simp at hq; rcases hq with rfl | rfl <;> assumption))
        rw [numL_two] at HNM
        obtain ⟨a, ha⟩ : ∃ a, readP (bytesOf L) = a := ⟨_, rfl⟩
        obtain ⟨b, hb⟩ : ∃ b, readP (bytesOf R) = b := ⟨_, rfl⟩
        rw [ha, hb] at HNM
        have hres : Hid (sp = (L, R, true)) := h2
        have HA := Lib.hid ha
        have HB := Lib.hid hb
        obtain ⟨n1, e1⟩ := a
        obtain ⟨n2, e2⟩ := b
        dsimp only at HNM
        have hL' : Hid (p.extract 0 i = L) := hL
        have hR' : Hid (p.extract (i + 1) p.size = R) := hR
        clear he hn h2 ha hb hzL hzR H1 H0
        go_upto_region 6 with fail
        refine ap_begin 13 (Keep [] w) rfl (Keep.refl _ _).drew (fun hS hPan => ?_) (fun _ _ d _ _ h => by cases d <;> exact h)
        (refine ap_val (v := ?_) 0 rfl (by kernel_rfl) (by kernel_rfl) (by kernel_rfl) (by kernel_rfl) (by rfl) hPan ?_ hS ?_; rotate_left; (intro w' hSw; go_simp; try with_reducible rfl); simp only [Act.put, List.setIfInBounds_toArray, List.set_cons_zero, List.set_cons_succ])
        (refine ap_val (v := ?_) 1 rfl (by kernel_rfl) (by kernel_rfl) (by kernel_rfl) (by kernel_rfl) (by rfl) hPan ?_ hS ?_; rotate_left; (intro w' hSw; go_simp; try with_reducible rfl); simp only [Act.put, List.setIfInBounds_toArray, List.set_cons_zero, List.set_cons_succ])
        (refine ap_val (v := ?_) 2 rfl (by kernel_rfl) (by kernel_rfl) (by kernel_rfl) (by kernel_rfl) (by rfl) hPan ?_ hS ?_; rotate_left; (intro w' hSw; go_simp; try with_reducible rfl); simp only [Act.put, List.setIfInBounds_toArray, List.set_cons_zero, List.set_cons_succ])
        (refine ap_val (v := ?_) 3 rfl (by kernel_rfl) (by kernel_rfl) (by kernel_rfl) (by kernel_rfl) (by rfl) hPan ?_ hS ?_; rotate_left; (intro w' hSw; go_simp; try with_reducible rfl); simp only [Act.put, List.setIfInBounds_toArray, List.set_cons_zero, List.set_cons_succ])
        (refine ap_val (v := ?_) 4 rfl (by kernel_rfl) (by kernel_rfl) (by kernel_rfl) (by kernel_rfl) (by rfl) hPan ?_ hS ?_; rotate_left; (intro w' hSw; go_simp; try with_reducible rfl); simp only [Act.put, List.setIfInBounds_toArray, List.set_cons_zero, List.set_cons_succ])
        (refine ap_val (v := ?_) 5 rfl (by kernel_rfl) (by kernel_rfl) (by kernel_rfl) (by kernel_rfl) (by rfl) hPan ?_ hS ?_; rotate_left; (intro w' hSw; go_simp; try with_reducible rfl); simp only [Act.put, List.setIfInBounds_toArray, List.set_cons_zero, List.set_cons_succ])
        refine ap_val (v := .string R) 6 rfl (by kernel_rfl) (by kernel_rfl) (by kernel_rfl) (by kernel_rfl) (by rfl) hPan (by intro w' hSw; go_simp) hS ?_
        (simp only [Act.put, List.setIfInBounds_toArray, List.set_cons_zero, List.set_cons_succ])
        refine ap_one 7 (by kernel_rfl) ?_
        refine op_run (v := .slice (some ⟨w.heap.size, 0, none⟩) 2 2) (w' := w.drew.alloc (.cells #[.string L, .string R] 9)) 7 rfl (by rfl) (by go_simp) ?_
        refine ⟨fun _ => hS.alloc _, ?_⟩
        have hK3 := hS.alloc (.cells #[.string L, .string R] 9)
        have hR3 : Reads (w.drew.alloc (.cells #[.string L, .string R] 9)) 1 (some ⟨w.heap.size, 0, none⟩) 2 (strs [L, R]) := ⟨rfl, fun _ => ⟨w.heap.size, 0, rfl, (Blk.new w.drew 9 #[.string L, .string R]).lt, fun j u hu => by rw [Nat.zero_add]; show World.cell? _ ⟨w.drew.heap.size, j, none⟩ = some u; rw [(Blk.new w.drew 9 #[.string L, .string R]).cell, List.getElem?_toArray]; exact hu⟩⟩
        (simp only [Act.put, List.setIfInBounds_toArray, List.set_cons_zero, List.set_cons_succ])
        clear hS
        generalize w.drew.alloc (.cells #[.string L, .string R] 9) = w3 at *
        refine ap_one 8 (by kernel_rfl) ?_
        refine op_call 8 rfl (by rfl) rfl (by simp only [List.map_toArray, List.map_cons, List.map_nil]; rfl) Try.func73 (by kernel_rfl) (by kernel_rfl) (HNM _ _ hR3).out (fun e w4 hp => ?_)
        by_cases he12 : e1 = 0 ∧ e2 = 0
        · rw [if_pos he12] at hp
          obtain ⟨k4, V, rfl, hrow⟩ := hp
          have hS := hK3.then k4
          refine ⟨_, rfl, fun _ => hS, ?_⟩
          (simp only [Act.put, List.setIfInBounds_toArray, List.set_cons_zero, List.set_cons_succ])
          (refine ap_val (v := ?_) 9 rfl (by kernel_rfl) (by kernel_rfl) (by kernel_rfl) (by kernel_rfl) (by rfl) hPan ?_ hS ?_; rotate_left; (intro w' hSw; go_simp; try with_reducible rfl); simp only [Act.put, List.setIfInBounds_toArray, List.set_cons_zero, List.set_cons_succ])
          (refine ap_val (v := ?_) 10 rfl (by kernel_rfl) (by kernel_rfl) (by kernel_rfl) (by kernel_rfl) (by rfl) hPan ?_ hS ?_; rotate_left; (intro w' hSw; go_simp; try with_reducible rfl); simp only [Act.put, List.setIfInBounds_toArray, List.set_cons_zero, List.set_cons_succ])
          (refine ap_val (v := ?_) 11 rfl (by kernel_rfl) (by kernel_rfl) (by kernel_rfl) (by kernel_rfl) (by rfl) hPan ?_ hS ?_; rotate_left; (intro w' hSw; go_simp; try with_reducible rfl); simp only [Act.put, List.setIfInBounds_toArray, List.set_cons_zero, List.set_cons_succ])
          (refine ap_val (v := ?_) 12 rfl (by kernel_rfl) (by kernel_rfl) (by kernel_rfl) (by kernel_rfl) (by rfl) hPan ?_ hS ?_; rotate_left; (intro w' hSw; go_simp; try with_reducible rfl); simp only [Act.put, List.setIfInBounds_toArray, List.set_cons_zero, List.set_cons_succ])
          refine ap_one 13 (by kernel_rfl) ?_
          refine op_run (v := .bool true) (w' := w4) 13 rfl (by rfl) (by go_simp) ?_
          refine ⟨fun h => (by cases h), ap_done (by kernel_rfl) ?_ _⟩
          (simp only [Act.put, List.setIfInBounds_toArray, List.set_cons_zero, List.set_cons_succ])
          obtain ⟨A', c', rfl⟩ := own_shape hrow
          obtain ⟨b', o', rfl, _, hcc⟩ := (Reads.of_own hrow).addr (by simp)
          have c0 := hcc 0 (.int .i64 n1) rfl
          have c1 := hcc 1 (.int .i64 n2) rfl
          simp only [Nat.add_zero] at c0
          have HS := Lib.hid hS
          have HE := Lib.hid he12
          clear hS hPan hK3 hR3 hrow hcc k4 he12 HNM
          by_cases hm : n1 < most
          · have hm' : decide (most ≤ n1) = false := decide_eq_false (by omega)
            by_cases h2z : n2 = 0
            · subst h2z
              go_wp2
              go_ret3
              refine ⟨?_, HS.out⟩
              rw [← HCP.out, hres.out]
              dsimp only
              rw [HA.out, HB.out, if_neg (fun h => h.2.2.2.2 rfl)]
              rfl
            · have h2b : (n2 == 0) = false := by simpa using h2z
              go_wp2
              go_region
              go_wp2
              go_ret3
              refine ⟨?_, HS.out.drew⟩
              rw [← HCP.out, hres.out]
              dsimp only
              rw [HA.out, HB.out, if_pos ⟨rfl, HE.out.1, HE.out.2, hm, h2z⟩]
              rfl
          · have hm' : decide (most ≤ n1) = true := decide_eq_true (by omega)
            go_wp2
            go_ret3
            refine ⟨?_, HS.out⟩
            rw [← HCP.out, hres.out]
            dsimp only
            rw [HA.out, HB.out, if_neg (fun h => absurd h.2.2.2.1 (by omega))]
            rfl
        · rw [if_neg he12] at hp
          obtain ⟨k4, rfl⟩ := hp
          have hS := hK3.then k4
          refine ⟨_, rfl, fun _ => hS, ?_⟩
          (simp only [Act.put, List.setIfInBounds_toArray, List.set_cons_zero, List.set_cons_succ])
          (refine ap_val (v := ?_) 9 rfl (by kernel_rfl) (by kernel_rfl) (by kernel_rfl) (by kernel_rfl) (by rfl) hPan ?_ hS ?_; rotate_left; (intro w' hSw; go_simp; try with_reducible rfl); simp only [Act.put, List.setIfInBounds_toArray, List.set_cons_zero, List.set_cons_succ])
          (refine ap_val (v := ?_) 10 rfl (by kernel_rfl) (by kernel_rfl) (by kernel_rfl) (by kernel_rfl) (by rfl) hPan ?_ hS ?_; rotate_left; (intro w' hSw; go_simp; try with_reducible rfl); simp only [Act.put, List.setIfInBounds_toArray, List.set_cons_zero, List.set_cons_succ])
          (refine ap_val (v := ?_) 11 rfl (by kernel_rfl) (by kernel_rfl) (by kernel_rfl) (by kernel_rfl) (by rfl) hPan ?_ hS ?_; rotate_left; (intro w' hSw; go_simp; try with_reducible rfl); simp only [Act.put, List.setIfInBounds_toArray, List.set_cons_zero, List.set_cons_succ])
          (refine ap_val (v := ?_) 12 rfl (by kernel_rfl) (by kernel_rfl) (by kernel_rfl) (by kernel_rfl) (by rfl) hPan ?_ hS ?_; rotate_left; (intro w' hSw; go_simp; try with_reducible rfl); simp only [Act.put, List.setIfInBounds_toArray, List.set_cons_zero, List.set_cons_succ])
          refine ap_one 13 (by kernel_rfl) ?_
          refine op_run (v := .bool false) (w' := w4) 13 rfl (by rfl) (by go_simp) ?_
          refine ⟨fun h => (by cases h), ap_done (by kernel_rfl) ?_ _⟩
          (simp only [Act.put, List.setIfInBounds_toArray, List.set_cons_zero, List.set_cons_succ])
          have HS := Lib.hid hS
          clear hS hPan hK3 hR3 k4 HNM
          go_wp2
          go_ret3
          refine ⟨?_, HS.out⟩
          rw [← HCP.out, hres.out]
          dsimp only
          rw [HA.out, HB.out, if_neg (fun h => he12 ⟨h.2.1, h.2.2.1⟩)]
          rfl
      · have h1 : ((p[i].toNat : Int) != (c : Int)) = true := by rw [bne_iff_ne]; omega
        have hn2 : Hid (∀ j, j < i + 1 → (h : j < p.size) → p[j].toNat ≠ c) := fun j hj h => by
          rcases Nat.lt_or_ge j i with hji | hji
          · exact hn j hji h
          · obtain rfl : j = i := by omega
            exact he
        have q4 : (0 : Int) ≤ (i : Int) := by omega
        have q5 : (i : Int) < p.size := by omega
        clear he hn
        go_wp2
        go_roundw
        case rel => exact ⟨i + 1, by omega, by go_num, hn2.out, trivial⟩
        case measure => simp [intOf]; omega
    · have h2 := Lib.hid (H0.out (fun j h => hn j (by omega) h))
      obtain rfl : i = p.size := by omega
      clear hn
      go_wp2
      go_ret3
      exact ⟨by rw [← HCP.out, h2.out]; rfl, Keep.refl _ _⟩
end Go.Proofs.Ytoepkhkaifgddaa

namespace Go.Proofs.Ytoepkhkaifgddaa
open Go.RowKit

/-- A number written into a row of them. -/
theorem pairP_cut (sg : Nat) (p : ByteArray) (l : List Int) : pairP sg p l = if (cutP sg l.length p).2.2 = true ∧ l.getD (cutP sg l.length p).1.toNat 0 = 0 then some (l.set (cutP sg l.length p).1.toNat (cutP sg l.length p).2.1) else none := by
  unfold pairP cutP
  by_cases h1 : (splitB p sg).2.2 = true
  · rw [if_pos h1]
    by_cases h2 : (readP (bytesOf (splitB p sg).1)).2 = 0 ∧ (readP (bytesOf (splitB p sg).2.1)).2 = 0 ∧ (readP (bytesOf (splitB p sg).1)).1 < (l.length : Int) ∧ (readP (bytesOf (splitB p sg).2.1)).1 ≠ 0
    · rw [if_pos (show (splitB p sg).2.2 = true ∧ _ from ⟨h1, h2⟩)]
      simp only [true_and]
      by_cases h3 : l.getD (readP (bytesOf (splitB p sg).1)).1.toNat 0 = 0
      · rw [if_pos ⟨h2.1, h2.2.1, h2.2.2.1, h2.2.2.2, h3⟩, if_pos h3]
      · rw [if_neg (fun h => h3 h.2.2.2.2), if_neg h3]
    · rw [if_neg (fun h => h2 ⟨h.1, h.2.1, h.2.2.1, h.2.2.2.1⟩), if_neg (show ¬((splitB p sg).2.2 = true ∧ _) from fun h => h2 h.2)]
      simp
  · simp [h1]
theorem cutP_in {sg : Nat} {most : Nat} {p : ByteArray} (h : (cutP sg most p).2.2 = true) : ∃ j n, j < most ∧ cutP sg most p = ((j : Int), n, true) := by
  unfold cutP at h ⊢
  split at h
  · rename_i hc
    have h0 := readP_range (bytesOf (splitB p sg).1)
    refine ⟨(readP (bytesOf (splitB p sg).1)).1.toNat, (readP (bytesOf (splitB p sg).2.1)).1, by have := hc.2.2.2.1; omega, ?_⟩
    rw [if_pos hc, Int.toNat_of_nonneg h0.1]
  · cases h
theorem numP_of (ps : List ByteArray) (i : Nat) (h : i < ps.length) : numP ps i = if (readP (bytesOf ps[i])).2 = 0 then some (readP (bytesOf ps[i])).1 else none := by
  unfold numP
  rw [List.getElem?_eq_getElem h]
theorem numP_out (ps : List ByteArray) (i : Nat) (h : ps.length ≤ i) : numP ps i = none := by
  unfold numP
  rw [List.getElem?_eq_none h]
theorem reads_part {w : World} {A : Option Addr} {ps : List ByteArray} (h : Reads w 1 A ps.length (strs ps)) (k n : Nat) (hk : k + n ≤ ps.length) : Reads w 1 (Option.map (fun (x : Addr) => ({ block := x.block, off := x.off + k } : Addr)) A) n (strs ((ps.drop k).take n)) := by
  refine ⟨by simp [strs]; omega, fun h0 => ?_⟩
  obtain ⟨b, o, rfl, hb, hc⟩ := h.addr (by omega)
  refine ⟨b, o + k, rfl, hb, fun j u hu => ?_⟩
  have hj : j < n := by
    rcases Nat.lt_or_ge j n with hh | hh
    · exact hh
    · rw [List.getElem?_eq_none (by simp [strs]; omega)] at hu; cases hu
  have := hc (k + j) u (by
    rw [← hu]
    simp [strs, List.getElem?_take, hj])
  rwa [← Nat.add_assoc] at this
theorem task_nums {ps : List ByteArray} (h : 4 ≤ ps.length) : (numL ((ps.drop 1).take 3) = none → taskP ps = none) ∧ ∀ l, numL ((ps.drop 1).take 3) = some l → ∃ a b c, l = [a, b, c] ∧ taskP ps = (pairsP 58 (ps.drop 4) (List.replicate 8 0)).map fun m => ⟨a, b, c, m⟩ := by
  match ps, h with
  | p0 :: p1 :: p2 :: p3 :: r, _ =>
    have e : ((p0 :: p1 :: p2 :: p3 :: r).drop 1).take 3 = [p1, p2, p3] := rfl
    have n1 : numP (p0 :: p1 :: p2 :: p3 :: r) 1 = if (readP (bytesOf p1)).2 = 0 then some (readP (bytesOf p1)).1 else none := rfl
    have n2 : numP (p0 :: p1 :: p2 :: p3 :: r) 2 = if (readP (bytesOf p2)).2 = 0 then some (readP (bytesOf p2)).1 else none := rfl
    have n3 : numP (p0 :: p1 :: p2 :: p3 :: r) 3 = if (readP (bytesOf p3)).2 = 0 then some (readP (bytesOf p3)).1 else none := rfl
    rw [e]
    unfold numL taskP
    rw [n1, n2, n3]
    by_cases h1 : (readP (bytesOf p1)).2 = 0
    · by_cases h2 : (readP (bytesOf p2)).2 = 0
      · by_cases h3 : (readP (bytesOf p3)).2 = 0
        · rw [if_pos (by simp [h1, h2, h3])]
          refine ⟨fun h => (by cases h), fun l hl => ?_⟩
          cases hl
          exact ⟨_, _, _, rfl, by rw [if_pos h1, if_pos h2, if_pos h3]; rfl⟩
        · rw [if_neg (by simp [h1, h2, h3])]
          exact ⟨fun _ => by rw [if_pos h1, if_pos h2, if_neg h3]; rfl, fun l hl => by cases hl⟩
      · rw [if_neg (by simp [h1, h2])]
        exact ⟨fun _ => by rw [if_pos h1, if_neg h2]; rfl, fun l hl => by cases hl⟩
    · rw [if_neg (by simp [h1])]
      exact ⟨fun _ => by rw [if_neg h1]; rfl, fun l hl => by cases hl⟩
def zTask : List Value := iv [0, 0, 0, 0, 0, 0, 0, 0, 0, 0, 0]
/-- What the document's task answers. -/
def TaskPost (w : World) (r : Option Tsk) (e : Ending) (w' : World) : Prop :=
  Keep [] w w' ∧ match r with
    | none => e = .returned (.tuple #[.agg zTask.toArray, .bool false])
    | some t => e = .returned (.tuple #[.agg (tskCells t).toArray, .bool true])

set_option maxRecDepth 100000 in
set_option maxHeartbeats 4000000 in
theorem rtask12_any (A : Option Addr) (cc : Nat) (ps : List ByteArray) (w : World) (h : Reads w 1 A ps.length (strs ps)) (hl : ps.length ≤ 1000001) (hcap : ps.length ≤ cc) (hz : ∀ p ∈ ps, p.size ≤ 1000000) :
    Calls Try.prog 74 #[.slice A ps.length cc] w (TaskPost w (taskP ps)) := by
  by_cases h4 : ps.length < 4
  · have hq : decide ((ps.length : Int) < 4) = true := decide_eq_true (by omega)
    have hT : Hid (taskP ps = none) := by
      show _ = _
      unfold taskP
      rw [numP_out ps 3 (by omega)]
      cases numP ps 1 <;> cases numP ps 2 <;> rfl
    clear h4 h
    go_enter Try.func74, Try.ntmps74
    go_wp2_with (refine stop_store 71 (.tmp 2) (.tmp 14) rfl ?_)
    constructor
    refine wpList_store_all rfl 71 (.tmp 2) (.tmp 14) rfl rfl rfl (vs := zTask) agg_task.2 (Blk.new _ _ _) (iv_one _) rfl ?_
    intro w1 d1 k1
    have kr1 : Keep [] w w1 := ((Keep.refl [] w).alloc _).trans k1 (fun y hy h => by simp at hy h; omega)
    go_wp2
    refine bodyPost_ret (results_cell_tmp rfl _ rfl rfl d1 agg_task) rfl ?_
    rw [hT.out]
    exact ⟨kr1, rfl⟩
  · have hq : decide ((ps.length : Int) < 4) = false := decide_eq_false (by omega)
    have q4 : (4 : Int) ≤ (cc : Int) := by omega
    obtain ⟨hTN, hTS⟩ := task_nums (ps := ps) (by omega)
    have HNM := fun W (hk : Keep [] w W) => Lib.hid (rnumbers_any (Option.map (fun (x : Addr) => ({ block := x.block, off := x.off + 1 } : Addr)) A) (cc - 1) ((ps.drop 1).take 3) W (by rw [show ((ps.drop 1).take 3).length = 3 by simp; omega]; exact reads_part (h.keep0 hk) 1 3 (by omega)) (by simp; omega) (fun p hp => hz p (List.mem_of_mem_drop (List.mem_of_mem_take hp))))
    have hl3 : ((ps.drop 1).take 3).length = 3 := by simp; omega
    rw [hl3] at HNM
    have H4 : Hid (4 ≤ ps.length) := by show _ ≤ _; omega
    have HH := Lib.hid h
    clear h4 h
    go_enter Try.func74, Try.ntmps74
    go_wp2_with fail
    have hB0 := Blk.new w 71 zTask.toArray
    have K0 : Keep [] w (w.alloc (.cells zTask.toArray 71)) := (Keep.refl [] w).alloc _
    refine (HNM _ K0).out.mono ?_
    rintro e w1 ⟨k1, hp⟩
    have K1 := Lib.hid (K0.then k1)
    have hbz := hB0.keep0 k1
    have HBZ := Lib.hid hbz
    have hg1 := hbz.lt
    clear hB0 K0 k1 HNM
    obtain ⟨g, hg⟩ : ∃ g, w.heap.size = g := ⟨_, rfl⟩
    have hgg : w.heap.size ≤ g := by omega
    rw [hg] at hbz HBZ hg1 ⊢
    clear hg
    cases hnl : numL ((ps.drop 1).take 3) with
    | none =>
      rw [hnl] at hp
      obtain rfl := hp
      have hT := Lib.hid (hTN hnl)
      clear hTS hTN
      go_wp2_with (refine stop_store 71 (.tmp 2) (.tmp 23) rfl ?_)
      constructor
      refine wpList_store_all rfl 71 (.tmp 2) (.tmp 23) rfl rfl rfl (vs := zTask) agg_task.2 hbz (iv_one _) rfl ?_
      intro wz dz kz
      have krz := K1.out.trans kz (fun y hy h => by simp at hy; omega)
      go_wp2
      refine bodyPost_ret (results_cell_tmp rfl _ rfl rfl dz agg_task) rfl ?_
      rw [hT.out]
      exact ⟨krz, rfl⟩
    | some l =>
      rw [hnl] at hp
      obtain ⟨V, rfl, hrow⟩ := hp
      obtain ⟨a, b, c, rfl, hT⟩ := hTS l hnl
      have HT := Lib.hid hT
      obtain ⟨A', c', rfl⟩ := own_shape hrow
      obtain ⟨b', o', rfl, hb', hcc⟩ := (Reads.of_own hrow).addr (by simp)
      have hF : ∀ w', Keep [] w1 w' → w'.cell? ⟨b', o', none⟩ = some (.int .i64 a) ∧ w'.cell? ⟨b', o' + 1, none⟩ = some (.int .i64 b) ∧ w'.cell? ⟨b', o' + 2, none⟩ = some (.int .i64 c) := fun w' k =>
        ⟨by rw [k.cell hb' (by simp)]; exact hcc 0 _ rfl, by rw [k.cell hb' (by simp)]; exact hcc 1 _ rfl, by rw [k.cell hb' (by simp)]; exact hcc 2 _ rfl⟩
      clear hTS hTN hnl hT hrow hcc hbz
      go_upto_region 6 with fail
      refine ap_begin 11 (Keep [] w1) rfl (Keep.refl _ _).drew (fun hS hPan => ?_) (fun _ _ d _ _ h => by cases d <;> exact h)
      (refine ap_val (v := ?_) 0 rfl (by kernel_rfl) (by kernel_rfl) (by kernel_rfl) (by kernel_rfl) (by rfl) hPan ?_ hS ?_; rotate_left; (intro w' hSw; go_simp; try with_reducible rfl); simp only [Act.put, List.setIfInBounds_toArray, List.set_cons_zero, List.set_cons_succ])
      (refine ap_val (v := ?_) 1 rfl (by kernel_rfl) (by kernel_rfl) (by kernel_rfl) (by kernel_rfl) (by rfl) hPan ?_ hS ?_; rotate_left; (intro w' hSw; go_simp; try with_reducible rfl); simp only [Act.put, List.setIfInBounds_toArray, List.set_cons_zero, List.set_cons_succ])
      (refine ap_val (v := ?_) 2 rfl (by kernel_rfl) (by kernel_rfl) (by kernel_rfl) (by kernel_rfl) (by rfl) hPan ?_ hS ?_; rotate_left; (intro w' hSw; obtain ⟨f1,f2,f3⟩ := hF w' hSw; go_simp; try with_reducible rfl); simp only [Act.put, List.setIfInBounds_toArray, List.set_cons_zero, List.set_cons_succ])
      (refine ap_val (v := ?_) 3 rfl (by kernel_rfl) (by kernel_rfl) (by kernel_rfl) (by kernel_rfl) (by rfl) hPan ?_ hS ?_; rotate_left; (intro w' hSw; go_simp; try with_reducible rfl); simp only [Act.put, List.setIfInBounds_toArray, List.set_cons_zero, List.set_cons_succ])
      (refine ap_val (v := ?_) 4 rfl (by kernel_rfl) (by kernel_rfl) (by kernel_rfl) (by kernel_rfl) (by rfl) hPan ?_ hS ?_; rotate_left; (intro w' hSw; go_simp; try with_reducible rfl); simp only [Act.put, List.setIfInBounds_toArray, List.set_cons_zero, List.set_cons_succ])
      (refine ap_val (v := ?_) 5 rfl (by kernel_rfl) (by kernel_rfl) (by kernel_rfl) (by kernel_rfl) (by rfl) hPan ?_ hS ?_; rotate_left; (intro w' hSw; obtain ⟨f1,f2,f3⟩ := hF w' hSw; go_simp; try with_reducible rfl); simp only [Act.put, List.setIfInBounds_toArray, List.set_cons_zero, List.set_cons_succ])
      (refine ap_val (v := ?_) 6 rfl (by kernel_rfl) (by kernel_rfl) (by kernel_rfl) (by kernel_rfl) (by rfl) hPan ?_ hS ?_; rotate_left; (intro w' hSw; go_simp; try with_reducible rfl); simp only [Act.put, List.setIfInBounds_toArray, List.set_cons_zero, List.set_cons_succ])
      (refine ap_val (v := ?_) 7 rfl (by kernel_rfl) (by kernel_rfl) (by kernel_rfl) (by kernel_rfl) (by rfl) hPan ?_ hS ?_; rotate_left; (intro w' hSw; go_simp; try with_reducible rfl); simp only [Act.put, List.setIfInBounds_toArray, List.set_cons_zero, List.set_cons_succ])
      (refine ap_val (v := ?_) 8 rfl (by kernel_rfl) (by kernel_rfl) (by kernel_rfl) (by kernel_rfl) (by rfl) hPan ?_ hS ?_; rotate_left; (intro w' hSw; obtain ⟨f1,f2,f3⟩ := hF w' hSw; go_simp; try with_reducible rfl); simp only [Act.put, List.setIfInBounds_toArray, List.set_cons_zero, List.set_cons_succ])
      (refine ap_val (v := ?_) 9 rfl (by kernel_rfl) (by kernel_rfl) (by kernel_rfl) (by kernel_rfl) (by rfl) hPan ?_ hS ?_; rotate_left; (intro w' hSw; go_simp; try with_reducible rfl); simp only [Act.put, List.setIfInBounds_toArray, List.set_cons_zero, List.set_cons_succ])
      refine ap_one 10 (by kernel_rfl) ?_
      refine op_run (v := .pointer (some ⟨w1.heap.size, 0, none⟩)) (w' := w1.drew.alloc (.cells zTask.toArray 71)) 10 rfl (by rfl) (by go_simp; rfl) ?_
      refine ⟨fun _ => hS.alloc _, ?_⟩
      (simp only [Act.put, List.setIfInBounds_toArray, List.set_cons_zero, List.set_cons_succ])
      refine ap_one 11 (by kernel_rfl) ?_
      refine op_store_all 11 rfl (by rfl) rfl rfl rfl (vs := tskCells ⟨a, b, c, List.replicate 8 0⟩) agg_task.2 (Blk.new w1.drew 71 zTask.toArray) (iv_one _) rfl ?_
      intro w3 d3 k3
      refine ⟨fun h => (by cases h), ap_done (by kernel_rfl) ?_ _⟩
      (simp only [Act.put, List.setIfInBounds_toArray, List.set_cons_zero, List.set_cons_succ])
      have k13 : Keep [] w1 w3 := (hS.alloc _).trans k3 (fun y hy h => by simp at hy; subst hy; omega)
      have KW := Lib.hid (K1.out.then k13)
      have HB3 := Lib.hid (HBZ.out.keep0 k13)
      have HD3 := Lib.hid d3
      clear hS hPan k13 d3 k3 hF HBZ K1
      obtain ⟨g6, hg6⟩ : ∃ g6, w1.heap.size = g6 := ⟨_, rfl⟩
      rw [hg6] at hg1 HD3 ⊢
      clear hg6
      have hg6 : w.heap.size ≤ g6 := by omega
      have HNE : Hid (g6 ≠ g) := by show _ ≠ _; omega
      have HP : Hid (∀ W, Keep [] w W → ∀ k, (hk : k < ps.length) → ∃ b o, A = some ⟨b, o, none⟩ ∧ W.cell? ⟨b, o + k, none⟩ = some (.string ps[k])) := fun W hk2 k hk => by
        obtain ⟨b, o, e, hb, hc⟩ := (HH.out.keep0 hk2).addr (by omega)
        exact ⟨b, o, e, hc k _ (by simp [strs, hk])⟩
      clear HH
      generalize Option.map (fun (x : Addr) => ({ block := x.block, off := x.off + 1 } : Addr)) A = A1 at *
      go_wp2
      go_loopw [7] (fun v7 wr => ∃ (i : Nat) (lon : List Int), 4 ≤ i ∧ i ≤ ps.length ∧ v7 = .int .i64 (i : Int) ∧ taskP ps = (pairsP 58 (ps.drop i) lon).map (fun m => ⟨a, b, c, m⟩) ∧ lon.length = 8 ∧ Blk wr g6 71 (tskCells ⟨a, b, c, lon⟩).toArray ∧ Blk wr g 71 zTask.toArray ∧ Keep [] w wr) (fun v7 _ => ps.length - (intOf v7).toNat)
      case atStart => exact ⟨4, _, Nat.le_refl _, H4.out, rfl, HT.out, rfl, HD3.out, HB3.out, KW.out⟩
      case round =>
        obtain ⟨i, lon, hi4, hil, rfl, hT, hln, hbt, hbz, hkw⟩ := hrel
        have HKW := Lib.hid hkw
        have HBT := Lib.hid hbt
        have HBZ := Lib.hid hbz
        by_cases hlt : i < ps.length
        · obtain ⟨bp, op, hA, hcell⟩ := HP.out wr hkw i hlt
          have p0 : (0 : Int) ≤ (i : Int) := by omega
          have p1 : (i : Int) < (ps.length : Int) := by omega
          have HCUT : Hid (Calls Try.prog 90 #[.string ps[i], .int .u8 58, .int .i64 8] wr fun e w' => e = .returned (.tuple #[.int .i64 (cutP 58 8 ps[i]).1, .int .i64 (cutP 58 8 ps[i]).2.1, .bool (cutP 58 8 ps[i]).2.2]) ∧ Keep [] wr w') := rcut_any ps[i] 58 (by decide) 8 (hz _ (List.getElem_mem hlt)) wr
          have HPC : Hid (pairP 58 ps[i] lon = if (cutP 58 8 ps[i]).2.2 = true ∧ lon.getD (cutP 58 8 ps[i]).1.toNat 0 = 0 then some (lon.set (cutP 58 8 ps[i]).1.toNat (cutP 58 8 ps[i]).2.1) else none) := by
            have := pairP_cut 58 ps[i] lon
            rw [hln] at this
            exact this
          have HST : Hid (taskP ps = ((pairP 58 ps[i] lon).bind (pairsP 58 (ps.drop (i + 1)))).map (fun m => ⟨a, b, c, m⟩)) := by show _ = _; rw [hT, List.drop_eq_getElem_cons hlt]; rfl
          have HIN : Hid ((cutP 58 8 ps[i]).2.2 = true → ∃ (j : Nat) (n : Int), j < 8 ∧ cutP 58 8 ps[i] = ((j : Int), n, true)) := fun h => cutP_in (most := 8) h
          clear hT hbt hbz hkw
          rw [hA]
          have HA := Lib.hid hA
          clear hA
          generalize ps[i] = q at *
          cases hcb : (cutP 58 8 q).2.2 with
          | false =>
            have hN : Hid (taskP ps = none) := by show _ = _; rw [HST.out, HPC.out, hcb, if_neg (by simp)]; rfl
            rw [hcb] at HCUT
            clear hcb HST HPC HIN
            generalize cutP 58 8 q = cu at *
            go_wp2_with (first
              | (refine HCUT.out.mono ?_; clear HCUT; rintro e w5 ⟨rfl, k5⟩)
              | (refine stop_store 71 (.tmp 2) (.tmp 58) rfl ?_))
            constructor
            refine wpList_store_all rfl 71 (.tmp 2) (.tmp 58) rfl rfl rfl (vs := zTask) agg_task.2 (HBZ.out.keep0 k5) (iv_one _) rfl ?_
            intro wz dz kz
            have krz := (HKW.out.then k5).trans kz (fun y hy h => by simp at hy; omega)
            go_wp2
            refine bodyPost_ret (results_cell_tmp rfl _ rfl rfl dz agg_task) rfl ?_
            rw [hN.out]
            exact ⟨krz, rfl⟩
          | true =>
            obtain ⟨j, n, hj, hjn⟩ := HIN.out hcb
            rw [hjn] at HCUT HPC
            dsimp only at HCUT HPC
            rw [Int.toNat_natCast] at HPC
            clear HIN hcb hjn
            have hgd : lon.getD j 0 = lon[j]'(by omega) := getD_of (by omega)
            have hjl : j < lon.length := by omega
            have hat : ∀ W, Keep [] wr W → W.cell? ⟨g6, 3 + j, none⟩ = some (.int .i64 lon[j]) := fun W k => by
              rw [(HBT.out.keep0 k).cell]
              simp [tskCells, tskInts, Nat.add_comm 3 j, hjl]
            have j0 : (0 : Int) ≤ (j : Int) := by omega
            have j1 : (j : Int) < 8 := by omega
            rw [hgd] at HPC
            by_cases hz0 : lon[j] = 0
            · have hS2 : Hid (taskP ps = (pairsP 58 (ps.drop (i + 1)) (lon.set j n)).map (fun m => ⟨a, b, c, m⟩)) := by show _ = _; rw [HST.out, HPC.out, if_pos ⟨rfl, hz0⟩]; rfl
              rw [hz0] at hat
              clear hz0 HST HPC hgd
              go_wp2_with (refine HCUT.out.mono ?_; clear HCUT; rintro e w5 ⟨rfl, k5⟩; have ha5 := hat _ k5; have hf5 := (HBT.out.keep0 k5).frozen (3 + j))
              (try rw [← HA.out])
              go_roundw
              case rel =>
                refine ⟨i + 1, lon.set j n, by omega, by omega, by go_num, hS2.out, by simp [hln], ?_, (HBZ.out.keep0 k5).far (Ne.symm HNE.out) _, (HKW.out.then k5).setCell (fun h => by dsimp only at h; omega) _⟩
                rw [← tsk_set]
                exact (HBT.out.keep0 k5).set_ (3 + j) _
              case measure => simp [intOf]; omega
            · have hN : Hid (taskP ps = none) := by show _ = _; rw [HST.out, HPC.out, if_neg (fun h => hz0 h.2)]; rfl
              have hzb : (lon[j] != 0) = true := by simpa using hz0
              clear hz0 HST HPC hgd
              generalize lon[j] = lj at *
              go_wp2_with (first
                | (refine HCUT.out.mono ?_; clear HCUT; rintro e w5 ⟨rfl, k5⟩; have ha5 := hat _ k5)
                | (refine stop_store 71 (.tmp 2) (.tmp 58) rfl ?_))
              constructor
              refine wpList_store_all rfl 71 (.tmp 2) (.tmp 58) rfl rfl rfl (vs := zTask) agg_task.2 (HBZ.out.keep0 k5) (iv_one _) rfl ?_
              intro wz dz kz
              have krz := (HKW.out.then k5).trans kz (fun y hy h => by simp at hy; omega)
              go_wp2
              refine bodyPost_ret (results_cell_tmp rfl _ rfl rfl dz agg_task) rfl ?_
              rw [hN.out]
              exact ⟨krz, rfl⟩
        · obtain rfl : i = ps.length := by omega
          have hS2 : Hid (taskP ps = some ⟨a, b, c, lon⟩) := by show _ = _; rw [hT, List.drop_eq_nil_iff.2 (Nat.le_refl _)]; rfl
          have htc : Hid ((tskCells ⟨a, b, c, lon⟩).length = 11) := tskCells_len hln
          have hone : ∀ u ∈ tskCells ⟨a, b, c, lon⟩, u.oneCell' = true := iv_one _
          clear hT hbt hbz hkw
          generalize htt : (⟨a, b, c, lon⟩ : Tsk) = t at *
          go_wp2_with (first
            | (refine wpList_load_agg rfl 71 (.tmp 6) rfl rfl (cs := tskCells t) (by rw [htc.out]; exact agg_task) HBT.out.cellsAt ?_)
            | (refine stop_store 71 (.tmp 2) (.tmp 63) rfl ?_))
          constructor
          refine wpList_store_all rfl 71 (.tmp 2) (.tmp 63) rfl rfl rfl (vs := tskCells t) (by rw [htc.out]; exact agg_task.2) HBZ.out hone (by rw [htc.out]; rfl) ?_
          intro wz dz kz
          have krz := HKW.out.trans kz (fun y hy h => by simp at hy; omega)
          go_wp2
          refine bodyPost_ret (results_cell_tmp rfl _ rfl rfl dz (by rw [htc.out]; exact agg_task)) rfl ?_
          rw [hS2.out]
          exact ⟨krz, rfl⟩
end Go.Proofs.Ytoepkhkaifgddaa
