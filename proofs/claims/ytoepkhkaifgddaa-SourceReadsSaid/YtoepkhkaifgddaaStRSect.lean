/- The document's upTo: a text parted at a byte; walked. Condition: the text is no longer than a million bytes. The document's section of a piece is the program's; walked. Condition: the piece is no longer than a million bytes. -/
import Derived.Test.YtoepkhkaifgddaaStRightW
import Derived.Test.YtoepkhkaifgddaaStSect
namespace Go.Proofs.Ytoepkhkaifgddaa
open Go.RowKit

theorem index_at : ∀ (l : List UInt8) (b : UInt8) (i : Nat), l[i]? = some b → (∀ j, j < i → l[j]? ≠ some b) → Lib.indexByte l b = (i : Int)
  | [], b, i, h, _ => by simp at h
  | a :: l, b, 0, h, _ => by
    simp at h
    rw [Lib.indexByte, h]
    simp
  | a :: l, b, i + 1, h, hn => by
    have h0 := hn 0 (by omega)
    have hab : ¬ a = b := by simpa using h0
    have ih := index_at l b i (by simpa using h) (fun j hj => by simpa using hn (j + 1) (by omega))
    have hc : (a == b) = false := by simpa using hab
    rw [Lib.indexByte, hc, ih]
    have h1 : ((i : Int) == -1) = false := by rw [beq_eq_false_iff_ne]; omega
    rw [h1]
    simp
theorem idxB_at (s : ByteArray) (c : Nat) (hc : c < 256) (i : Nat) (h : i < s.size) (he : s[i].toNat = c) (hn : ∀ j, j < i → (h : j < s.size) → s[j].toNat ≠ c) : idxB s (c : Int) = (i : Int) := by
  have hcu : ∀ j, (h : j < s.size) → s.data.toList[j]? = some s[j] := fun j h => by
    have h' : j < s.data.toList.length := by simpa using h
    rw [List.getElem?_eq_getElem h']
    rfl
  have hcc : ((c : Int).toNat.toUInt8).toNat = c := by simp; omega
  unfold idxB
  refine index_at _ _ i ?_ (fun j hj => ?_)
  · rw [hcu i h]
    congr 1
    exact UInt8.toNat_inj.1 (by rw [he, hcc])
  · rw [hcu j (by omega)]
    intro e
    have e2 := congrArg UInt8.toNat (Option.some.inj e)
    rw [hcc] at e2
    exact hn j hj (by omega) e2
theorem idxB_none (s : ByteArray) (c : Nat) (hc : c < 256) (hn : ∀ j, (h : j < s.size) → s[j].toNat ≠ c) : ¬ 0 ≤ idxB s (c : Int) := fun h => by
  have h1 : hasB s (c : Int) = true := by unfold hasB; simpa using h
  obtain ⟨j, hj, e⟩ := (hasB_iff s c hc).1 h1
  exact hn j hj e

set_option maxRecDepth 100000 in
theorem rupTo_any (p : ByteArray) (c : Nat) (hc : c < 256) (hp : p.size ≤ 1000000) (w : World) :
    Calls Try.prog 86 #[.string p, .int .u8 (c : Int)] w fun e w' => e = .returned (.tuple #[.string (splitB p (c : Int)).1, .string (splitB p (c : Int)).2.1, .bool (splitB p (c : Int)).2.2]) ∧ Keep [] w w' := by
  have H1 : Hid (∀ i, (h : i < p.size) → p[i].toNat = c → (∀ j, j < i → (h : j < p.size) → p[j].toNat ≠ c) → splitB p (c : Int) = (p.extract 0 i, p.extract (i + 1) p.size, true)) := fun i h he hn => by
    have := idxB_at p c hc i h he hn
    unfold splitB
    rw [this, if_pos (by omega)]
    simp
  have H0 : Hid ((∀ j, (h : j < p.size) → p[j].toNat ≠ c) → splitB p (c : Int) = ({ data := #[] }, { data := #[] }, false)) := fun hn => by
    unfold splitB
    rw [if_neg (idxB_none p c hc hn)]
  generalize splitB p (c : Int) = sp at *
  go_enter Try.func86, Try.ntmps86
  go_wp2
  go_loopw [7] (fun v7 wr => ∃ i : Nat, i ≤ p.size ∧ v7 = .int .i64 (i : Int) ∧ (∀ j, j < i → (h : j < p.size) → p[j].toNat ≠ c) ∧ w = wr) (fun v7 _ => p.size - (intOf v7).toNat)
  case atStart => exact ⟨0, Nat.zero_le _, rfl, fun j h => absurd h (by omega), rfl⟩
  case round =>
    obtain ⟨i, hi, rfl, hn, rfl⟩ := hrel
    by_cases hlt : i < p.size
    · by_cases he : p[i].toNat = c
      · have h1 : ((p[i].toNat : Int) == (c : Int)) = true := by simp [he]
        have h2 := Lib.hid (H1.out i hlt he hn)
        have q2 : (i : Int) + 1 ≤ p.size := by omega
        have q3 : (i : Int) ≤ p.size := by omega
        have q4 : (0 : Int) ≤ (i : Int) := by omega
        clear he hn
        go_wp2
        go_region
        go_wp2
        go_ret3
        exact ⟨by rw [h2.out]; rfl, (Keep.refl _ _).drew⟩
      · have h1 : ((p[i].toNat : Int) == (c : Int)) = false := by rw [beq_eq_false_iff_ne]; omega
        have hn2 : Hid (∀ j, j < i + 1 → (h : j < p.size) → p[j].toNat ≠ c) := fun j hj h => by
          rcases Nat.lt_or_ge j i with hji | hji
          · exact hn j hji h
          · obtain rfl : j = i := by omega
            exact he
        clear he hn
        go_wp2
        go_roundw
        case rel => exact ⟨i + 1, by omega, by go_num, hn2.out, trivial⟩
        case measure => simp [intOf]; omega
    · have h2 := Lib.hid (H0.out (fun j h => hn j (by omega) h))
      clear hn
      go_wp2
      go_ret3
      exact ⟨by rw [h2.out]; rfl, Keep.refl _ _⟩
end Go.Proofs.Ytoepkhkaifgddaa

namespace Go.Proofs.Ytoepkhkaifgddaa
open Go.RowKit

theorem readP_err (l : List UInt8) : (readP l).2 = 0 ∨ (readP l).2 = 10 := by
  unfold readP
  split
  · exact .inr rfl
  · split
    · split
      · exact .inr rfl
      · exact .inl rfl
    · exact .inr rfl
theorem rread_fix (s : ByteArray) (w : World) (hs : s.size ≤ 1000000) : Calls Try.prog 54 #[.string s] w fun e w' => e = .returned (.tuple #[.int .i64 (readP (bytesOf s)).1, .int .i64 (readP (bytesOf s)).2]) ∧ Keep [] w w' := by
  rw [readP_readR]
  exact rread_any s w (by unfold maxLen; omega)

set_option maxRecDepth 100000 in
set_option maxHeartbeats 2000000 in
theorem rsect_any (s : ByteArray) (w : World) (hs : s.size ≤ 1000000) :
    Calls Try.prog 52 #[.string s] w fun e w' => e = .returned (.tuple #[.agg (sctCells (sectP s).1).toArray, .bool (sectP s).2]) ∧ Keep [] w w' := by
  have hz := splitB_size s 58
  have hz2 := splitB_size (splitB s 58).2.1 45
  have HA := fun W => Lib.hid (rupTo_any s 58 (by decide) hs W)
  have HB := fun W => Lib.hid (rupTo_any (splitB s 58).2.1 45 (by decide) (by omega) W)
  rw [show ((58 : Nat) : Int) = 58 from rfl] at HA
  rw [show ((45 : Nat) : Int) = 45 from rfl] at HB
  have HR1 := fun W => Lib.hid (rread_fix (splitB s 58).1 W (by omega))
  have HR2 := fun W => Lib.hid (rread_fix (splitB (splitB s 58).2.1 45).1 W (by omega))
  have HR3 := fun W => Lib.hid (rread_fix (splitB (splitB s 58).2.1 45).2.1 W (by omega))
  unfold sectP
  generalize splitB s 58 = x at *
  obtain ⟨x1, x2, x3⟩ := x
  dsimp only at *
  generalize splitB x2 45 = y at *
  obtain ⟨y1, y2, y3⟩ := y
  dsimp only at *
  have hr1 := readP_err (bytesOf x1)
  have hr2 := readP_err (bytesOf y1)
  have hr3 := readP_err (bytesOf y2)
  generalize readP (bytesOf x1) = r at *
  generalize readP (bytesOf y1) = f at *
  generalize readP (bytesOf y2) = t at *
  clear hz hz2 hs
  have hb := Blk.new w 85 #[.int .i64 0, .int .i64 0, .int .i64 0]
  have hv : ∀ (a b c : Int), ∀ y, y ∈ sctCells ⟨a, b, c⟩ → y.oneCell' = true := by intro a b c y hy; simp [sctCells, sctInts] at hy; rcases hy with rfl | rfl | rfl <;> rfl
  have hcase : (x3 = true ∧ y3 = true) ∨ (x3 = true ∧ y3 = false) ∨ x3 = false := by cases x3 <;> cases y3 <;> simp
  rcases hcase with ⟨rfl, rfl⟩ | ⟨rfl, rfl⟩ | rfl
  · obtain ⟨ra, rb⟩ := r
    obtain ⟨fa, fb⟩ := f
    obtain ⟨ta, tb⟩ := t
    dsimp only at *
    go_enter Try.func52, Try.ntmps52
    go_wp2_with fail
    refine (HA _).out.mono ?_
    rintro e w1 ⟨rfl, k1⟩
    go_wp2_with fail
    refine (HB _).out.mono ?_
    rintro e w2 ⟨rfl, k2⟩
    go_wp2_with fail
    refine (HR1 _).out.mono ?_
    rintro e w3 ⟨rfl, k3⟩
    go_wp2_with fail
    refine (HR2 _).out.mono ?_
    rintro e w4 ⟨rfl, k4⟩
    go_wp2_with fail
    refine (HR3 _).out.mono ?_
    rintro e w5 ⟨rfl, k5⟩
    have kk := (((k1.then k2).then k3).then k4).then k5
    have hb5 := Lib.hid (hb.keep0 kk)
    have K5 := Lib.hid (((Keep.refl [] w).alloc _).then kk)
    clear HA HB HR1 HR2 HR3 k1 k2 k3 k4 k5 kk hb
    rcases hr1 with rfl | rfl <;> rcases hr2 with rfl | rfl <;> rcases hr3 with rfl | rfl
    all_goals
      go_wp2_with (refine stop_store 85 (.tmp 2) (.tmp 53) rfl ?_)
      constructor
      refine wpList_store_all rfl 85 (.tmp 2) (.tmp 53) rfl rfl rfl (vs := sctCells ⟨ra, fa, ta⟩) agg_section.2 hb5.out (hv _ _ _) rfl ?_
      intro w6 d6 k6
      have K6 : Hid (Keep [] w w6) := K5.out.trans k6 (fun y hy h => by simp at hy h; omega)
      clear k6 hb5 hv
      go_wp2
      refine bodyPost_ret (st_results rfl _ rfl rfl d6 agg_section) rfl ?_
      exact ⟨by simp, K6.out⟩
  · go_enter Try.func52, Try.ntmps52
    go_wp2_with fail
    refine (HA _).out.mono ?_
    rintro e w1 ⟨rfl, k1⟩
    go_wp2_with fail
    refine (HB _).out.mono ?_
    rintro e w2 ⟨rfl, k2⟩
    have kk := k1.then k2
    have hb5 := Lib.hid (hb.keep0 kk)
    have K5 := Lib.hid (((Keep.refl [] w).alloc _).then kk)
    clear HA HB HR1 HR2 HR3 k1 k2 kk hb
    go_wp2_with (refine stop_store 85 (.tmp 2) (.tmp 34) rfl ?_)
    constructor
    refine wpList_store_all rfl 85 (.tmp 2) (.tmp 34) rfl rfl rfl (vs := sctCells ⟨0, 0, 0⟩) agg_section.2 hb5.out (hv _ _ _) rfl ?_
    intro w6 d6 k6
    have K6 : Hid (Keep [] w w6) := K5.out.trans k6 (fun y hy h => by simp at hy h; omega)
    clear k6 hb5
    go_wp2
    refine bodyPost_ret (st_results rfl _ rfl rfl d6 agg_section) rfl ?_
    exact ⟨by simp, K6.out⟩
  · go_enter Try.func52, Try.ntmps52
    go_wp2_with fail
    refine (HA _).out.mono ?_
    rintro e w1 ⟨rfl, k1⟩
    go_wp2_with fail
    refine (HB _).out.mono ?_
    rintro e w2 ⟨rfl, k2⟩
    have kk := k1.then k2
    have hb5 := Lib.hid (hb.keep0 kk)
    have K5 := Lib.hid (((Keep.refl [] w).alloc _).then kk)
    clear HA HB HR1 HR2 HR3 k1 k2 kk hb
    go_wp2_with (refine stop_store 85 (.tmp 2) (.tmp 34) rfl ?_)
    constructor
    refine wpList_store_all rfl 85 (.tmp 2) (.tmp 34) rfl rfl rfl (vs := sctCells ⟨0, 0, 0⟩) agg_section.2 hb5.out (hv _ _ _) rfl ?_
    intro w6 d6 k6
    have K6 : Hid (Keep [] w w6) := K5.out.trans k6 (fun y hy h => by simp at hy h; omega)
    clear k6 hb5
    go_wp2
    refine bodyPost_ret (st_results rfl _ rfl rfl d6 agg_section) rfl ?_
    exact ⟨by simp, K6.out⟩
end Go.Proofs.Ytoepkhkaifgddaa
