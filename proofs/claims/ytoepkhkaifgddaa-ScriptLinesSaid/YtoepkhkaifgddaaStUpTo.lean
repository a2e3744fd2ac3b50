/- The document's upTo: a text parted at a byte; walked. Condition: the text is no longer than a million bytes. -/
import Derived.Test.YtoepkhkaifgddaaStForm
import Derived.Test.YtoepkhkaifgddaaStSect
namespace Go.Proofs.Ytoepkhkaifgddaa
open Go.RowKit

theorem index_at : ∀ (l : List UInt8) (b : UInt8) (i : Nat), l[i]? = some b → (∀ j, j < i → l[j]? ≠ some b) → Lib.indexByte l b = (i : Int)
  | [], b, i, h, _ => by simp at h
  | a :: l, b, 0, h, _ => by
    simp at h
    rw [Lib.indexByte, h]
    simp
  | a :: l, b, i + 1, h, hn => by
    have h0 := hn 0 (by omega)
    have hab : ¬ a = b := by simpa using h0
    have ih := index_at l b i (by simpa using h) (fun j hj => by simpa using hn (j + 1) (by omega))
    have hc : (a == b) = false := by simpa using hab
    rw [Lib.indexByte, hc, ih]
    have h1 : ((i : Int) == -1) = false := by rw [beq_eq_false_iff_ne]; omega
    rw [h1]
    simp
theorem idxB_at (s : ByteArray) (c : Nat) (hc : c < 256) (i : Nat) (h : i < s.size) (he : s[i].toNat = c) (hn : ∀ j, j < i → (h : j < s.size) → s[j].toNat ≠ c) : idxB s (c : Int) = (i : Int) := by
  have hcu : ∀ j, (h : j < s.size) → s.data.toList[j]? = some s[j] := fun j h => by
    have h' : j < s.data.toList.length := by simpa using h
    rw [List.getElem?_eq_getElem h']
    rfl
  have hcc : ((c : Int).toNat.toUInt8).toNat = c := by simp; omega
  unfold idxB
  refine index_at _ _ i ?_ (fun j hj => ?_)
  · rw [hcu i h]
    congr 1
    exact UInt8.toNat_inj.1 (by rw [he, hcc])
  · rw [hcu j (by omega)]
    intro e
    have e2 := congrArg UInt8.toNat (Option.some.inj e)
    rw [hcc] at e2
    exact hn j hj (by omega) e2
theorem idxB_none (s : ByteArray) (c : Nat) (hc : c < 256) (hn : ∀ j, (h : j < s.size) → s[j].toNat ≠ c) : ¬ 0 ≤ idxB s (c : Int) := fun h => by
  have h1 : hasB s (c : Int) = true := by unfold hasB; simpa using h
  obtain ⟨j, hj, e⟩ := (hasB_iff s c hc).1 h1
  exact hn j hj e

set_option maxRecDepth 100000 in
theorem rupTo_any (p : ByteArray) (c : Nat) (hc : c < 256) (hp : p.size ≤ 1000000) (w : World) :
    Calls Try.prog 86 #[.string p, .int .u8 (c : Int)] w fun e w' => e = .returned (.tuple #[.string (splitB p (c : Int)).1, .string (splitB p (c : Int)).2.1, .bool (splitB p (c : Int)).2.2]) ∧ Keep [] w w' := by
  have H1 : Hid (∀ i, (h : i < p.size) → p[i].toNat = c → (∀ j, j < i → (h : j < p.size) → p[j].toNat ≠ c) → splitB p (c : Int) = (p.extract 0 i, p.extract (i + 1) p.size, true)) := fun i h he hn => by
    have := idxB_at p c hc i h he hn
    unfold splitB
    rw [this, if_pos (by omega)]
    simp
  have H0 : Hid ((∀ j, (h : j < p.size) → p[j].toNat ≠ c) → splitB p (c : Int) = ({ data := #[] }, { data := #[] }, false)) := fun hn => by
    unfold splitB
    rw [if_neg (idxB_none p c hc hn)]
  generalize splitB p (c : Int) = sp at *
  go_enter Try.func86, Try.ntmps86
  go_wp2
  go_loopw [7] (fun v7 wr => ∃ i : Nat, i ≤ p.size ∧ v7 = .int .i64 (i : Int) ∧ (∀ j, j < i → (h : j < p.size) → p[j].toNat ≠ c) ∧ w = wr) (fun v7 _ => p.size - (intOf v7).toNat)
  case atStart => exact ⟨0, Nat.zero_le _, rfl, fun j h => absurd h (by omega), rfl⟩
  case round =>
    obtain ⟨i, hi, rfl, hn, rfl⟩ := hrel
    by_cases hlt : i < p.size
    · by_cases he : p[i].toNat = c
      · have h1 : ((p[i].toNat : Int) == (c : Int)) = true := by simp [he]
        have h2 := Lib.hid (H1.out i hlt he hn)
        have q2 : (i : Int) + 1 ≤ p.size := by omega
        have q3 : (i : Int) ≤ p.size := by omega
        have q4 : (0 : Int) ≤ (i : Int) := by omega
        clear he hn
        go_wp2
        go_region
        go_wp2
        go_ret3
        exact ⟨by rw [h2.out]; rfl, (Keep.refl _ _).drew⟩
      · have h1 : ((p[i].toNat : Int) == (c : Int)) = false := by rw [beq_eq_false_iff_ne]; omega
        have hn2 : Hid (∀ j, j < i + 1 → (h : j < p.size) → p[j].toNat ≠ c) := fun j hj h => by
          rcases Nat.lt_or_ge j i with hji | hji
          · exact hn j hji h
          · obtain rfl : j = i := by omega
            exact he
        clear he hn
        go_wp2
        go_roundw
        case rel => exact ⟨i + 1, by omega, by go_num, hn2.out, trivial⟩
        case measure => simp [intOf]; omega
    · have h2 := Lib.hid (H0.out (fun j h => hn j (by omega) h))
      clear hn
      go_wp2
      go_ret3
      exact ⟨by rw [h2.out]; rfl, Keep.refl _ _⟩
end Go.Proofs.Ytoepkhkaifgddaa
