/- The text of an image: plain; and the walks of its parts: pairs, the words of policies and protocols, on both sides. Condition: rows of at most a thousand numbers. The text of an image, line by line: plain. No condition. -/
import Derived.Test.YtoepkhkaifgddaaStLineW
import Derived.Test.YtoepkhkaifgddaaImgMem
import Derived.Test.YtoepkhkaifgddaaFlow
import Derived.Test.YtoepkhkaifgddaaImgC
namespace Go.Proofs.Ytoepkhkaifgddaa
open Go.RowKit

/-- One number that is told: a blank, its place, a sign, and the number. -/
def pairT (sg : List UInt8) (i : Nat) (n : Int) : List UInt8 := 32 :: (decL (clampN i) ++ (sg ++ decL (clampN n)))
def pairsT (sg : List UInt8) : Nat → List Int → List UInt8
  | _, [] => []
  | i, n :: l => (if n = 0 then [] else pairT sg i n) ++ pairsT sg (i + 1) l
def pairsU (sg : List UInt8) : Nat → List Int → List UInt8
  | _, [] => []
  | i, n :: l => (if 0 < n then pairT sg i n else []) ++ pairsU sg (i + 1) l
def polW (p : Int) : List UInt8 := if p = 1 then [114, 101, 102, 117, 115, 101] else if p = 2 then [111, 108, 100] else if p = 3 then [110, 101, 119] else []
def proW (p : Int) : List UInt8 := if p = 1 then [105, 100, 108, 101] else if p = 2 then [108, 111, 110, 103, 101, 115, 116] else if p = 3 then [97, 112, 97, 114, 116] else []
theorem pairsU_eq (sg : List UInt8) : ∀ (l : List Int) (i : Nat), (∀ n ∈ l, 0 ≤ n) → pairsU sg i l = pairsT sg i l
  | [], _, _ => rfl
  | n :: l, i, h => by
    rw [pairsU, pairsT, pairsU_eq sg l (i + 1) (fun x hx => h x (by simp [hx]))]
    have := h n (by simp)
    by_cases h0 : n = 0
    · rw [if_pos h0, if_neg (by omega)]
    · rw [if_neg h0, if_pos (by omega)]
theorem pairT_len (sg : List UInt8) (i : Nat) (n : Int) : (pairT sg i n).length ≤ 21 + sg.length := by
  have h1 := decL_len10 (i : Int)
  have h2 := decL_len10 n
  unfold pairT
  simp
  omega
theorem pairsT_len (sg : List UInt8) : ∀ (l : List Int) (i : Nat), (pairsT sg i l).length ≤ l.length * (21 + sg.length)
  | [], _ => by simp [pairsT]
  | n :: l, i => by
    rw [pairsT, List.length_append, List.length_cons, Nat.add_mul]
    have := pairsT_len sg l (i + 1)
    have := pairT_len sg i n
    split
    · simp; omega
    · omega
theorem pairsU_len (sg : List UInt8) : ∀ (l : List Int) (i : Nat), (pairsU sg i l).length ≤ l.length * (21 + sg.length)
  | [], _ => by simp [pairsU]
  | n :: l, i => by
    rw [pairsU, List.length_append, List.length_cons, Nat.add_mul]
    have := pairsU_len sg l (i + 1)
    have := pairT_len sg i n
    split
    · omega
    · simp; omega
theorem pairsT_append (sg : List UInt8) : ∀ (l m : List Int) (i : Nat), pairsT sg i (l ++ m) = pairsT sg i l ++ pairsT sg (i + l.length) m
  | [], m, i => by simp [pairsT]
  | n :: l, m, i => by
    rw [List.cons_append, pairsT, pairsT, pairsT_append sg l m (i + 1), List.append_assoc, List.length_cons, show i + 1 + l.length = i + (l.length + 1) by omega]
theorem pairsU_append (sg : List UInt8) : ∀ (l m : List Int) (i : Nat), pairsU sg i (l ++ m) = pairsU sg i l ++ pairsU sg (i + l.length) m
  | [], m, i => by simp [pairsU]
  | n :: l, m, i => by
    rw [List.cons_append, pairsU, pairsU, pairsU_append sg l m (i + 1), List.append_assoc, List.length_cons, show i + 1 + l.length = i + (l.length + 1) by omega]
theorem pairsT_step (sg : List UInt8) {l : List Int} {k : Nat} (hk : k < l.length) : pairsT sg 0 (l.take (k + 1)) = pairsT sg 0 (l.take k) ++ (if l[k] = 0 then [] else pairT sg k l[k]) := by
  rw [List.take_succ_eq_append_getElem hk, pairsT_append]
  have e : 0 + (l.take k).length = k := by rw [List.length_take]; omega
  simp only [e, pairsT, List.append_nil]
theorem pairsU_step (sg : List UInt8) {l : List Int} {k : Nat} (hk : k < l.length) : pairsU sg 0 (l.take (k + 1)) = pairsU sg 0 (l.take k) ++ (if 0 < l[k] then pairT sg k l[k] else []) := by
  rw [List.take_succ_eq_append_getElem hk, pairsU_append]
  have e : 0 + (l.take k).length = k := by rw [List.length_take]; omega
  simp only [e, pairsU, List.append_nil]

theorem add_is {a b d : List UInt8} (e : Hid (d = a ++ b)) (hab : a.length + b.length ≤ 1000000000000) (W : World) : (binOp .add 9 (strOf a) (strOf b)).run Try.prog W = .ok (strOf d) W := by
  rw [e.out]
  exact run_add_str (P := Try.prog) 9 a b hab W
theorem add_len {a b d : List UInt8} (e : Hid (d = a ++ b)) : d.length = a.length + b.length := by rw [e.out, List.length_append]
theorem add_new (a b : List UInt8) : ∃ d, Hid (d = a ++ b) := ⟨_, rfl⟩

set_option maxRecDepth 100000 in
set_option maxHeartbeats 2000000 in
theorem pairs_any (A : Option Addr) (c : Nat) (l : List Int) (sg : List UInt8) (w : World) (h : Reads w 1 A l.length (iv l)) (hl : l.length ≤ 1000) (hs : sg.length = 1) :
    Calls Try.prog 39 #[.slice A l.length c, strOf sg] w fun e w' => e = .returned (strOf (pairsT sg 0 l)) ∧ Keep [] w w' := by
  have hPL := fun k => pairsT_len sg (l.take k) 0
  go_enter Try.func39, Try.ntmps39
  go_wp2
  go_loopw [5, 10] (fun v5 v10 wr => ∃ k : Nat, k ≤ l.length ∧ v10 = .int .i64 (k : Int) ∧ v5 = strOf (pairsT sg 0 (l.take k)) ∧ Keep [] w wr) (fun _ v10 _ => l.length - (intOf v10).toNat)
  case atStart => exact ⟨0, Nat.zero_le _, rfl, by simp [pairsT, strOf], Keep.refl _ _⟩
  case round =>
    obtain ⟨k, hk, rfl, rfl, hkw⟩ := hrel
    have HKW := Lib.hid hkw
    by_cases hlt : k < l.length
    · obtain ⟨b, o, hA, hb, hc⟩ := h.addr (by omega)
      have hcell := (hkw.cell (p := ⟨b, o + k, none⟩) hb (by simp)).trans (hc k (.int .i64 l[k]) (by simp [hlt]))
      have hnx := Lib.hid (pairsT_step sg hlt)
      have hpl := hPL k
      have p0 : (0 : Int) ≤ (k : Int) := by omega
      have p1 : (k : Int) < (l.length : Int) := by omega
      have hpl2 : (pairsT sg 0 (l.take k)).length ≤ 100000 := by
        have : (l.take k).length ≤ 1000 := by rw [List.length_take]; omega
        have : (l.take k).length * (21 + sg.length) ≤ 1000 * (21 + sg.length) := Nat.mul_le_mul_right _ this
        omega
      clear hc hPL hpl hkw
      generalize l[k] = n at *
      generalize pairsT sg 0 (l.take k) = acc at *
      rw [hA]
      have HA := Lib.hid hA
      clear hA
      by_cases hn : n = 0
      · have hq : (n != 0) = false := by simp [hn]
        have hE : Hid (pairsT sg 0 (l.take (k + 1)) = acc) := by show _ = _; rw [hnx.out, if_pos hn, List.append_nil]
        clear hnx hn
        go_wp2
        (try rw [← HA.out])
        go_roundw
        case rel => exact ⟨k + 1, by omega, by go_num, by rw [hE.out], HKW.out⟩
        case measure => simp [intOf]; omega
      · have hq : (n != 0) = true := by simp [hn]
        have hE : Hid (pairsT sg 0 (l.take (k + 1)) = acc ++ (32 :: (decL (clampN k) ++ (sg ++ decL (clampN n))))) := by show _ = _; rw [hnx.out, if_neg hn]; rfl
        have h1 := decL_len10 (k : Int)
        have h2 := decL_len10 n
        generalize hda : decL (clampN k) = da at *
        generalize hdb : decL (clampN n) = db at *
        obtain ⟨d1, e1⟩ := add_new [32] da
        obtain ⟨d2, e2⟩ := add_new d1 sg
        obtain ⟨d3, e3⟩ := add_new d2 db
        obtain ⟨d4, e4⟩ := add_new acc d3
        have l1 := add_len e1
        have l2 := add_len e2
        have l3 := add_len e3
        have had1 : ∀ W, (binOp .add 9 (.string { data := #[32] }) (strOf da)).run Try.prog W = .ok (strOf d1) W := fun W => add_is e1 (by simp; omega) W
        have had2 := fun W => add_is e2 (by simp at l1; omega) W
        have had3 := fun W => add_is e3 (by simp at l1; omega) W
        have had4 := fun W => add_is e4 (by simp at l1; omega) W
        have hE4 : Hid (pairsT sg 0 (l.take (k + 1)) = d4) := by show _ = _; rw [hE.out, e4.out, e3.out, e2.out, e1.out]; simp
        clear l1 l2 l3 hE
        clear hnx hn
        go_wp2_with fail
        refine (text_fix (k : Int) _).mono ?_
        rintro e w2 ⟨rfl, k2⟩
        rw [hda]
        have HK2 := Lib.hid (HKW.out.then k2)
        clear k2
        go_wp2_with fail
        refine (text_fix n _).mono ?_
        rintro e w3 ⟨rfl, k3⟩
        rw [hdb]
        have HK3 := Lib.hid (HK2.out.then k3)
        clear k3
        go_wp2
        (try rw [← HA.out])
        go_roundw
        case rel => exact ⟨k + 1, by omega, by go_num, by rw [hE4.out], HK3.out⟩
        case measure => simp [intOf]; omega
    · have e : l.take k = l := List.take_of_length_le (by omega)
      rw [e]
      clear hPL
      go_wp2
      go_ret
      exact ⟨rfl, HKW.out⟩

/-- Two texts laid together, as an operation. -/
theorem exec_is {a b d : List UInt8} {ev : Operand → Value} {x y : Operand} {dst : Option Tmp} {t' ty : TypeId} {pos : String} {after : Array Edge} {gd : Option (Nat × Bool)} (e : Hid (d = a ++ b)) (hx : ev x = strOf a) (hy : ev y = strOf b) (hab : a.length + b.length ≤ 1000000000000) (w : World) :
    (execOp ev ⟨dst, .binOp .add 9 x y t', ty, pos, after, gd⟩).run Try.prog w = .ok (.value (strOf d)) w := by
  rw [e.out]
  exact exec_add hx hy hab w

set_option maxRecDepth 100000 in
set_option maxHeartbeats 2000000 in
theorem some_any12 (A : Option Addr) (c : Nat) (l : List Int) (sg : List UInt8) (w : World) (h : Reads w 1 A l.length (iv l)) (hl : l.length ≤ 1000) (hs : sg.length = 1) :
    Calls Try.prog 43 #[.slice A l.length c, strOf sg] w fun e w' => e = .returned (strOf (pairsU sg 0 l)) ∧ Keep [] w w' := by
  have hPL := fun k => pairsU_len sg (l.take k) 0
  go_enter Try.func43, Try.ntmps43
  go_wp2
  go_loopw [5, 6] (fun v5 v6 wr => ∃ k : Nat, k ≤ l.length ∧ v6 = .int .i64 (k : Int) ∧ v5 = strOf (pairsU sg 0 (l.take k)) ∧ Keep [] w wr) (fun _ v6 _ => l.length - (intOf v6).toNat)
  case atStart => exact ⟨0, Nat.zero_le _, rfl, by simp [pairsU, strOf], Keep.refl _ _⟩
  case round =>
    obtain ⟨k, hk, rfl, rfl, hkw⟩ := hrel
    have HKW := Lib.hid hkw
    by_cases hlt : k < l.length
    · obtain ⟨b, o, hA, hb, hc⟩ := h.addr (by omega)
      have hF : ∀ w', Keep [] wr w' → w'.cell? ⟨b, o + k, none⟩ = some (.int .i64 l[k]) ∧ True := fun w' hw => ⟨((HKW.out.then hw).cell (p := ⟨b, o + k, none⟩) hb (by simp)).trans (hc k (.int .i64 l[k]) (by simp [hlt])), trivial⟩
      have hnx := Lib.hid (pairsU_step sg hlt)
      have hpl := hPL k
      have p0 : (0 : Int) ≤ (k : Int) := by omega
      have p1 : (k : Int) < (l.length : Int) := by omega
      have hpl2 : (pairsU sg 0 (l.take k)).length ≤ 100000 := by
        have : (l.take k).length ≤ 1000 := by rw [List.length_take]; omega
        have : (l.take k).length * (21 + sg.length) ≤ 1000 * (21 + sg.length) := Nat.mul_le_mul_right _ this
        omega
      clear hc hPL hpl hkw
      generalize l[k] = n at *
      generalize pairsU sg 0 (l.take k) = acc at *
      rw [hA]
      have HA := Lib.hid hA
      clear hA
      obtain ⟨f1, _⟩ := hF wr (Keep.refl _ _)
      by_cases hn : 0 < n
      · have hE : Hid (pairsU sg 0 (l.take (k + 1)) = acc ++ (32 :: (decL (clampN k) ++ (sg ++ decL (clampN n))))) := by show _ = _; rw [hnx.out, if_pos hn]; rfl
        have h1 := decL_len10 (k : Int)
        have h2 := decL_len10 n
        have HT1 := fun W => Lib.hid (rtext_fix (k : Int) W)
        have HT2 := fun W => Lib.hid (rtext_fix n W)
        generalize decL (clampN k) = da at *
        generalize decL (clampN n) = db at *
        obtain ⟨d1, e1⟩ := add_new [32] da
        obtain ⟨d2, e2⟩ := add_new d1 sg
        obtain ⟨d3, e3⟩ := add_new d2 db
        obtain ⟨d4, e4⟩ := add_new acc d3
        have l1 := add_len e1
        have l2 := add_len e2
        have l3 := add_len e3
        simp at l1
        have hE4 : Hid (pairsU sg 0 (l.take (k + 1)) = d4) := by show _ = _; rw [hE.out, e4.out, e3.out, e2.out, e1.out]; simp
        clear hE hnx
        have HIF := Lib.hid hF
        clear hF
        go_wp2
        have hF := HIF.out
        refine wp_region_flow (Keep [] wr) rfl (by kernel_rfl) (Keep.refl _ _).drew ?_
        repeat (refine fl_val (v := ?_) (by rfl) ?_ ?_; rotate_left; (intro w' hS; obtain ⟨f1,_⟩ := hF w' hS; go_simp; with_reducible rfl); simp only [Act.put, List.setIfInBounds_toArray, List.set_cons_zero, List.set_cons_succ])
        refine fl_call (f := 42) (v := strOf da) (by rfl) rfl (by simp only [List.map_toArray, List.map_cons, List.map_nil]; rfl) Try.func42 (by kernel_rfl) (by kernel_rfl) (fun w' hS => (HT1 w').out.mono fun e w'' hh => ⟨hh.1, hS.then hh.2⟩) ?_; simp only [Act.put, List.setIfInBounds_toArray, List.set_cons_zero, List.set_cons_succ]
        (refine fl_val (by rfl) (fun w' _ => exec_is e1 rfl rfl (by (try simp only [List.length_cons, List.length_nil]); omega) w') ?_; simp only [Act.put, List.setIfInBounds_toArray, List.set_cons_zero, List.set_cons_succ])
        repeat (refine fl_val (v := ?_) (by rfl) ?_ ?_; rotate_left; (intro w' hS; obtain ⟨f1,_⟩ := hF w' hS; go_simp; with_reducible rfl); simp only [Act.put, List.setIfInBounds_toArray, List.set_cons_zero, List.set_cons_succ])
        (refine fl_val (by rfl) (fun w' _ => exec_is e2 rfl rfl (by (try simp only [List.length_cons, List.length_nil]); omega) w') ?_; simp only [Act.put, List.setIfInBounds_toArray, List.set_cons_zero, List.set_cons_succ])
        repeat (refine fl_val (v := ?_) (by rfl) ?_ ?_; rotate_left; (intro w' hS; obtain ⟨f1,_⟩ := hF w' hS; go_simp; with_reducible rfl); simp only [Act.put, List.setIfInBounds_toArray, List.set_cons_zero, List.set_cons_succ])
        refine fl_call (f := 42) (v := strOf db) (by rfl) rfl (by simp only [List.map_toArray, List.map_cons, List.map_nil]; rfl) Try.func42 (by kernel_rfl) (by kernel_rfl) (fun w' hS => (HT2 w').out.mono fun e w'' hh => ⟨hh.1, hS.then hh.2⟩) ?_; simp only [Act.put, List.setIfInBounds_toArray, List.set_cons_zero, List.set_cons_succ]
        (refine fl_val (by rfl) (fun w' _ => exec_is e3 rfl rfl (by (try simp only [List.length_cons, List.length_nil]); omega) w') ?_; simp only [Act.put, List.setIfInBounds_toArray, List.set_cons_zero, List.set_cons_succ])
        (refine fl_val (by rfl) (fun w' _ => exec_is e4 rfl rfl (by (try simp only [List.length_cons, List.length_nil]); omega) w') ?_; simp only [Act.put, List.setIfInBounds_toArray, List.set_cons_zero, List.set_cons_succ])
        repeat (refine fl_val (v := ?_) (by rfl) ?_ ?_; rotate_left; (intro w' hS; obtain ⟨f1,_⟩ := hF w' hS; go_simp; with_reducible rfl); simp only [Act.put, List.setIfInBounds_toArray, List.set_cons_zero, List.set_cons_succ])
        refine fl_nil ?_
        intro w4 hS
        have HK4 := Lib.hid (HKW.out.then hS)
        clear hF hS f1
        go_wp2
        (try rw [← HA.out])
        go_roundw
        case rel => exact ⟨k + 1, by omega, by go_num, by rw [hE4.out], HK4.out⟩
        case measure => simp [intOf]; omega
      · have hE : Hid (pairsU sg 0 (l.take (k + 1)) = acc) := by show _ = _; rw [hnx.out, if_neg hn, List.append_nil]
        clear hnx hF
        go_wp2
        (try rw [← HA.out])
        go_roundw
        case rel => exact ⟨k + 1, by omega, by go_num, by rw [hE.out], HKW.out⟩
        case measure => simp [intOf]; omega
    · have e : l.take k = l := List.take_of_length_le (by omega)
      rw [e]
      clear hPL
      go_wp2
      go_ret
      exact ⟨rfl, HKW.out⟩

set_option maxRecDepth 100000 in
theorem policy_any (p : Int) (w : World) : Calls Try.prog 40 #[.int .i64 p] w fun e w' => e = .returned (strOf (polW p)) ∧ Keep [] w w' := by
  have hc : p = 1 ∨ p = 2 ∨ p = 3 ∨ (p ≠ 1 ∧ p ≠ 2 ∧ p ≠ 3) := by omega
  rcases hc with rfl | rfl | rfl | ⟨h1, h2, h3⟩
  iterate 3
    · go_enter Try.func40, Try.ntmps40
      go_wp2
      go_ret
      exact ⟨rfl, Keep.refl _ _⟩
  · have e : polW p = [] := by unfold polW; rw [if_neg h1, if_neg h2, if_neg h3]
    rw [e]
    have q1 : (p == 1) = false := by simpa using h1
    have q2 : (p == 2) = false := by simpa using h2
    have q3 : (p == 3) = false := by simpa using h3
    clear e h1 h2 h3
    go_enter Try.func40, Try.ntmps40
    go_wp2
    go_ret
    exact ⟨rfl, Keep.refl _ _⟩
set_option maxRecDepth 100000 in
theorem rpolicy_any (p : Int) (w : World) : Calls Try.prog 45 #[.int .i64 p] w fun e w' => e = .returned (strOf (polW p)) ∧ Keep [] w w' := by
  have hc : p = 1 ∨ p = 2 ∨ p = 3 ∨ p < 1 ∨ 3 < p := by omega
  rcases hc with rfl | rfl | rfl | h1 | h1
  iterate 3
    · go_enter Try.func45, Try.ntmps45
      go_wp2
      go_ret
      exact ⟨rfl, (Keep.refl _ _).alloc _⟩
  · have e : polW p = [] := by unfold polW; rw [if_neg (by omega), if_neg (by omega), if_neg (by omega)]
    rw [e]
    clear e
    go_enter Try.func45, Try.ntmps45
    go_wp2
    go_ret
    exact ⟨rfl, Keep.refl _ _⟩
  · have e : polW p = [] := by unfold polW; rw [if_neg (by omega), if_neg (by omega), if_neg (by omega)]
    rw [e]
    have h2 : ¬ p < 1 := by omega
    clear e
    go_enter Try.func45, Try.ntmps45
    go_wp2
    go_ret
    exact ⟨rfl, Keep.refl _ _⟩

set_option maxRecDepth 100000 in
theorem protocol_any (p : Int) (w : World) : Calls Try.prog 41 #[.int .i64 p] w fun e w' => e = .returned (strOf (proW p)) ∧ Keep [] w w' := by
  have hc : p = 1 ∨ p = 2 ∨ p = 3 ∨ (p ≠ 1 ∧ p ≠ 2 ∧ p ≠ 3) := by omega
  rcases hc with rfl | rfl | rfl | ⟨h1, h2, h3⟩
  iterate 3
    · go_enter Try.func41, Try.ntmps41
      go_wp2
      go_ret
      exact ⟨rfl, Keep.refl _ _⟩
  · have e : proW p = [] := by unfold proW; rw [if_neg h1, if_neg h2, if_neg h3]
    rw [e]
    have q1 : (p == 1) = false := by simpa using h1
    have q2 : (p == 2) = false := by simpa using h2
    have q3 : (p == 3) = false := by simpa using h3
    clear e h1 h2 h3
    go_enter Try.func41, Try.ntmps41
    go_wp2
    go_ret
    exact ⟨rfl, Keep.refl _ _⟩
set_option maxRecDepth 100000 in
theorem rprotocol_any (p : Int) (w : World) : Calls Try.prog 46 #[.int .i64 p] w fun e w' => e = .returned (strOf (proW p)) ∧ Keep [] w w' := by
  have hc : p = 1 ∨ p = 2 ∨ p = 3 ∨ p < 1 ∨ 3 < p := by omega
  rcases hc with rfl | rfl | rfl | h1 | h1
  iterate 3
    · go_enter Try.func46, Try.ntmps46
      go_wp2
      go_ret
      exact ⟨rfl, (Keep.refl _ _).alloc _⟩
  · have e : proW p = [] := by unfold proW; rw [if_neg (by omega), if_neg (by omega), if_neg (by omega)]
    rw [e]
    clear e
    go_enter Try.func46, Try.ntmps46
    go_wp2
    go_ret
    exact ⟨rfl, Keep.refl _ _⟩
  · have e : proW p = [] := by unfold proW; rw [if_neg (by omega), if_neg (by omega), if_neg (by omega)]
    rw [e]
    have h2 : ¬ p < 1 := by omega
    clear e
    go_enter Try.func46, Try.ntmps46
    go_wp2
    go_ret
    exact ⟨rfl, Keep.refl _ _⟩
end Go.Proofs.Ytoepkhkaifgddaa

namespace Go.Proofs.Ytoepkhkaifgddaa
open Go.RowKit

abbrev PairF := List UInt8 → Nat → List Int → List UInt8
section
variable (P : PairF)
def taskT (t : Tsk) : List UInt8 := [116, 97, 115, 107, 32] ++ (decL (clampN t.per) ++ (32 :: (decL (clampN t.ded) ++ (32 :: (decL (clampN t.cost) ++ (P [58] 0 t.lon ++ [10]))))))
def bitT (s i : Nat) : List UInt8 := if s.testBit i then 32 :: decL (clampN (i : Int)) else []
def bitsT (s : Nat) (k : Nat) : List UInt8 := (List.range k).flatMap (bitT s)
def queT (q : Que) : List UInt8 := [113, 117, 101, 117, 101, 32] ++ (decL (clampN q.cap) ++ (32 :: (polW q.pol ++ [10])))
def modeT (m : Mdd) : List UInt8 := [109, 111, 100, 101] ++ (bitsT m.set 32 ++ (10 :: m.qs.flatMap queT))
def edgeT (e : Edg) : List UInt8 := [101, 100, 103, 101, 32] ++ (decL (clampN e.frm) ++ (32 :: (decL (clampN e.to) ++ (32 :: (proW e.prot ++ (P [62] 0 e.mp ++ (P [58] 0 e.offs ++ [10])))))))
def printT (x : Img) : List UInt8 := [114, 101, 115, 32] ++ (decL (clampN x.res) ++ (10 :: (x.tasks.flatMap (taskT P) ++ (x.modes.flatMap modeT ++ x.edges.flatMap (edgeT P)))))
end
theorem polW_len (p : Int) : (polW p).length ≤ 6 := by
  unfold polW
  split
  · decide
  · split
    · decide
    · split <;> decide
theorem proW_len (p : Int) : (proW p).length ≤ 7 := by
  unfold proW
  split
  · decide
  · split
    · decide
    · split <;> decide
/-- Rows of pairs are short. -/
def PairLe (P : PairF) : Prop := ∀ sg i l, (P sg i l).length ≤ l.length * (21 + sg.length)
theorem pairsT_le : PairLe pairsT := fun sg i l => pairsT_len sg l i
theorem pairsU_le : PairLe pairsU := fun sg i l => pairsU_len sg l i
theorem taskT_len {P : PairF} (hP : PairLe P) {t : Tsk} (h : t.lon.length = 8) : (taskT P t).length ≤ 300 := by
  have h1 := decL_len10 t.per
  have h2 := decL_len10 t.ded
  have h3 := decL_len10 t.cost
  have h4 := hP [58] 0 t.lon
  rw [h] at h4
  unfold taskT
  simp at h4 ⊢
  omega
theorem bitT_len (s i : Nat) : (bitT s i).length ≤ 11 := by
  have := decL_len10 (i : Int)
  unfold bitT
  split
  · simp; omega
  · simp
theorem bitsT_len (s k : Nat) : (bitsT s k).length ≤ k * 11 := by
  have := flatT_len (bitT s) 11 (bitT_len s) (List.range k)
  simpa [bitsT] using this
theorem bitsT_succ (s k : Nat) : bitsT s (k + 1) = bitsT s k ++ bitT s k := by
  unfold bitsT
  rw [List.range_succ, List.flatMap_append]
  simp
theorem queT_len (q : Que) : (queT q).length ≤ 25 := by
  have h1 := decL_len10 q.cap
  have h2 := polW_len q.pol
  unfold queT
  simp
  omega
theorem modeT_len {m : Mdd} (h : m.qs.length ≤ 20) : (modeT m).length ≤ 1000 := by
  have h1 := bitsT_len m.set 32
  have h2 := flatT_len queT 25 queT_len m.qs
  have : m.qs.length * 25 ≤ 20 * 25 := Nat.mul_le_mul_right _ h
  unfold modeT
  simp only [List.length_append, List.length_cons, List.length_nil]
  omega
theorem edgeT_len {P : PairF} (hP : PairLe P) {e : Edg} (h : e.offs.length = 16) (h' : e.mp.length = 4) : (edgeT P e).length ≤ 600 := by
  have h1 := decL_len10 e.frm
  have h2 := decL_len10 e.to
  have h3 := proW_len e.prot
  have h4 := hP [62] 0 e.mp
  have h5 := hP [58] 0 e.offs
  rw [h'] at h4
  rw [h] at h5
  unfold edgeT
  simp at h4 h5 ⊢
  omega
theorem flatT_len2 {α : Type} (f : α → List UInt8) (n : Nat) : ∀ l : List α, (∀ x ∈ l, (f x).length ≤ n) → (l.flatMap f).length ≤ l.length * n
  | [], _ => by simp
  | x :: l, h => by
    rw [List.flatMap_cons, List.length_append, List.length_cons, Nat.add_mul]
    have := flatT_len2 f n l (fun y hy => h y (by simp [hy]))
    have := h x (by simp)
    omega
theorem flat_step {α : Type} (f : α → List UInt8) {l : List α} {k : Nat} (hk : k < l.length) : (l.take (k + 1)).flatMap f = (l.take k).flatMap f ++ f l[k] := by
  rw [List.take_succ_eq_append_getElem hk, List.flatMap_append]
  simp
theorem greatImg_no {x : Img} (h : greatImg x = false) : x.tasks.length ≤ 40 ∧ x.modes.length ≤ 20 ∧ x.edges.length ≤ 60 ∧ ∀ m ∈ x.modes, m.qs.length ≤ 20 := by
  unfold greatImg at h
  simp only [Bool.or_eq_false_iff, decide_eq_false_iff_not] at h
  obtain ⟨⟨⟨h1, h2⟩, h3⟩, h4⟩ := h
  refine ⟨by omega, by omega, by omega, fun m hm => ?_⟩
  have := (List.any_eq_false.1 h4) m hm
  simp at this
  omega
theorem reads_blk {w : World} {g o : Nat} {t : TypeId} {cs : Array Value} {l : List Int} (h : Blk w g t cs) (hc : ∀ j, (hj : j < l.length) → cs[o + j]? = some (.int .i64 l[j])) : Reads w 1 (some ⟨g, o, none⟩) l.length (iv l) := by
  refine ⟨by simp, fun _ => ⟨g, o, rfl, h.lt, fun j u hu => ?_⟩⟩
  rw [h.cell]
  have hj : j < l.length := by
    rcases Nat.lt_or_ge j l.length with hh | hh
    · exact hh
    · simp [List.getElem?_eq_none hh] at hu
  rw [hc j hj]
  simpa [hj] using hu
/-- What a task's text is laid together of. -/
theorem taskT_parts {P : PairF} {t : Tsk} {dp dd dc dq d1 d2 d3 d4 d5 d6 d7 : List UInt8} (hp : dp = decL (clampN t.per)) (hd : dd = decL (clampN t.ded)) (hc : dc = decL (clampN t.cost)) (hq : dq = P [58] 0 t.lon)
    (e1 : Hid (d1 = [116, 97, 115, 107, 32] ++ dp)) (e2 : Hid (d2 = d1 ++ [32])) (e3 : Hid (d3 = d2 ++ dd)) (e4 : Hid (d4 = d3 ++ [32])) (e5 : Hid (d5 = d4 ++ dc)) (e6 : Hid (d6 = d5 ++ dq)) (e7 : Hid (d7 = d6 ++ [10])) : d7 = taskT P t := by
  rw [e7.out, e6.out, e5.out, e4.out, e3.out, e2.out, e1.out, hp, hd, hc, hq]
  unfold taskT
  simp
theorem queT_parts {q : Que} {dp dd d1 d2 d3 d4 : List UInt8} (hp : dp = decL (clampN q.cap)) (hd : dd = polW q.pol)
    (e1 : Hid (d1 = [113, 117, 101, 117, 101, 32] ++ dp)) (e2 : Hid (d2 = d1 ++ [32])) (e3 : Hid (d3 = d2 ++ dd)) (e4 : Hid (d4 = d3 ++ [10])) : d4 = queT q := by
  rw [e4.out, e3.out, e2.out, e1.out, hp, hd]
  unfold queT
  simp
theorem edgeT_parts {P : PairF} {e : Edg} {dp dd dc dq dr d1 d2 d3 d4 d5 d6 d7 d8 : List UInt8} (hp : dp = decL (clampN e.frm)) (hd : dd = decL (clampN e.to)) (hc : dc = proW e.prot) (hq : dq = P [62] 0 e.mp) (hr : dr = P [58] 0 e.offs)
    (e1 : Hid (d1 = [101, 100, 103, 101, 32] ++ dp)) (e2 : Hid (d2 = d1 ++ [32])) (e3 : Hid (d3 = d2 ++ dd)) (e4 : Hid (d4 = d3 ++ [32])) (e5 : Hid (d5 = d4 ++ dc)) (e6 : Hid (d6 = d5 ++ dq)) (e7 : Hid (d7 = d6 ++ dr)) (e8 : Hid (d8 = d7 ++ [10])) : d8 = edgeT P e := by
  rw [e8.out, e7.out, e6.out, e5.out, e4.out, e3.out, e2.out, e1.out, hp, hd, hc, hq, hr]
  unfold edgeT
  simp
theorem bit_and (s i : Nat) (hs : s < 4294967296) : (bits .and .u32 ((s : Int) / 2 ^ i) 1 == 1) = s.testBit i := by
  have e : (s : Int) / 2 ^ i = ((s / 2 ^ i : Nat) : Int) := by norm_cast
  have h2 : s / 2 ^ i < 4294967296 := Nat.lt_of_le_of_lt (Nat.div_le_self _ _) hs
  have h3 := u32_and_nat (s / 2 ^ i) 1 h2 (by decide)
  rw [e, show (1 : Int) = ((1 : Nat) : Int) from rfl, h3, Nat.testBit_eq_decide_div_mod_eq, Nat.and_one_is_mod, Bool.eq_iff_iff]
  simp only [beq_iff_eq, decide_eq_true_eq]
  omega
theorem edg_blk {W : World} {g : Nat} {t : Edg} (hlo : t.offs.length = 16) (hlp : t.mp.length = 4) (hW : Blk W g 76 (edgCells t).toArray) :
    W.cell? ⟨g, 0, none⟩ = some (.int .i64 t.frm) ∧ W.cell? ⟨g, 1, none⟩ = some (.int .i64 t.to) ∧ W.cell? ⟨g, 2, none⟩ = some (.int .i64 t.prot) ∧ Reads W 1 (some ⟨g, 19, none⟩) 4 (iv t.mp) ∧ Reads W 1 (some ⟨g, 3, none⟩) 16 (iv t.offs) := by
  refine ⟨hW.cell 0, hW.cell 1, hW.cell 2, ?_, ?_⟩
  · have := reads_blk (o := 19) (l := t.mp) hW (fun j hj => by
      have h1 : t.offs.length ≤ j + 16 := by omega
      have h2 : j + 16 - t.offs.length = j := by omega
      simp [edgCells, edgInts, Nat.add_comm 19 j]
      rw [List.getElem?_append_right (by simpa using h1)]
      simp [h2, hj])
    rw [hlp] at this
    exact this
  · have := reads_blk (o := 3) (l := t.offs) hW (fun j hj => by
      simp [edgCells, edgInts, Nat.add_comm 3 j, List.getElem?_append, hj])
    rw [hlo] at this
    exact this
end Go.Proofs.Ytoepkhkaifgddaa
