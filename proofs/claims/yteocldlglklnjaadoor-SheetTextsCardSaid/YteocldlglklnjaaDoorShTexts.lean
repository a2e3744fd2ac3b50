/- Numbers as texts: sheet's and the law's; no condition. -/
import Derived.Test.YteocldlglklnjaaDoorDigText
import Derived.Test.YteocldlglklnjaaDoorEqI
import Derived.WalkKit
namespace Go.Proofs.YteocldlglklnjaaDoor
open Go.RowKit

theorem slice_strS : SliceOf Tryd.prog 55 9 1 16 := ⟨Tryd.underlying55, by kernel_rfl, by decide⟩
/-- A number's text. -/
def textOf (n : Int) : ByteArray := ⟨(decL (clampN n)).toArray⟩
theorem bytes_eq {S : ByteArray} {l : List UInt8} (h : bytesOf S = l) : S = ⟨l.toArray⟩ := by
  unfold bytesOf at h
  subst h
  rfl
def strsV (l : List ByteArray) : List Value := l.map Value.string
theorem strsV_len (l : List ByteArray) : (strsV l).length = l.length := List.length_map ..
theorem strsV_append (l m : List ByteArray) : strsV (l ++ m) = strsV l ++ strsV m := List.map_append
/-- A row of texts of the call's own. -/
def RetTs (w : World) (xs : List ByteArray) (e : Ending) (w' : World) : Prop :=
  ∃ A c, e = .returned (.slice A xs.length c) ∧ w'.ownsRow w.heap.size 9 1 (.slice A xs.length c) xs.length (strsV xs) ∧ Keep [] w w'
structure OwnS (w0 w : World) (V : Value) (l : List ByteArray) : Prop where
  row : w.ownsRow w0.heap.size 9 1 V l.length (strsV l)
  keep : Keep [] w0 w
theorem OwnS.nil (w : World) : OwnS w w (.slice none 0 0) [] := ⟨World.ownsRow_nil _ _ _ _, Keep.refl _ _⟩
theorem OwnS.ret {w0 w : World} {V : Value} {l : List ByteArray} (h : OwnS w0 w V l) : RetTs w0 l (.returned V) w := by
  obtain ⟨A, c, rfl⟩ := own_shape h.row
  exact ⟨A, c, rfl, h.row, h.keep⟩
theorem OwnS.keep0 {w0 w w' : World} {V : Value} {l : List ByteArray} (h : OwnS w0 w V l) (k : Keep [] w w') : OwnS w0 w' V l := ⟨own_keep0 h.row k, h.keep.then k⟩
theorem OwnS.app {w0 w w' : World} {V V' : Value} {l m : List ByteArray} (h : OwnS w0 w V l) (k : Keep V.ownBlock.toList w w') (h' : w'.ownsRow w0.heap.size 9 1 V' m.length (strsV m)) : OwnS w0 w' V' m :=
  ⟨h', h.keep.trans k (fun x hx hlt => by have := (h.row.lt x (by simpa using hx)).1; omega)⟩

set_option maxRecDepth 100000 in
set_option maxHeartbeats 1000000 in
theorem rtexts_any (A : Option Addr) (c : Nat) (l : List Int) (w : World) (hR : Reads w 1 A l.length (iv l)) (hl : l.length ≤ 100000) :
    Calls Tryd.prog 13 #[.slice A l.length c] w (RetTs w (l.map textOf)) := by
  have HR := Lib.hid hR
  have HT := fun n W => Lib.hid (rtext_any n W)
  clear hR
  go_enter Tryd.func13, Tryd.ntmps13
  go_wp2
  go_loopw [3, 4] (fun V vi wr => ∃ k : Nat, k ≤ l.length ∧ vi = .int .i64 (k : Int) ∧ OwnS w wr V ((l.take k).map textOf)) (fun _ vi _ => l.length - (intOf vi).toNat)
  case atStart => exact ⟨0, Nat.zero_le _, rfl, OwnS.nil w⟩
  case round =>
    obtain ⟨k, hk, rfl, hO⟩ := hrel
    by_cases hlt : k < l.length
    · obtain ⟨b, o, u, hA, hbw, hu, hcu⟩ := (HR.out.keep0 hO.keep).at_ hlt
      have hu2 : u = .int .i64 l[k] := by
        rw [iv_get hlt] at hu
        cases hu
        rfl
      subst hu2
      have HS : Hid ((l.take (k + 1)).map textOf = (l.take k).map textOf ++ [textOf l[k]]) := by show _ = _; rw [List.take_succ_eq_append_getElem hlt, List.map_append]; rfl
      have hk1 : (k : Int) < (l.length : Int) := by omega
      have hk0 : (0 : Int) ≤ (k : Int) := by omega
      have hHT := HT l[k] wr
      have HE : Hid (textOf l[k] = ⟨(decL (clampN l[k])).toArray⟩) := show _ = _ from rfl
      have hlm : ((l.take k).map textOf).length = k := by simp; omega
      rw [hA]
      generalize l[k] = y at *
      go_wp2_with fail
      refine hHT.out.mono ?_
      rintro e w1 ⟨S, rfl, hS, k1⟩
      have HSt : Hid (S = textOf y) := by show _ = _; rw [HE.out]; exact bytes_eq hS
      have O1 := hO.keep0 k1
      have hrow := O1.row
      have hsz := O1.keep.size
      rw [hlm] at hrow
      clear hS hHT HE
      go_wp2_with (at_builtin; refine wpList_append_one rfl (.tmp 11) (.tmp 17) 55 rfl slice_strS hrow rfl rfl (us := [.string S]) rfl (by simp [Value.oneCell']) hsz (by omega) (by unfold maxLen; omega) ?_; intro v' w2 hown1 hgrow1 hat1)
      refine ⟨⟨k + 1, by omega, by go_num, ?_⟩, ?_⟩
      · rw [HS.out]
        refine O1.app hgrow1 ?_
        rw [List.length_append, hlm, strsV_append, ← HSt.out]
        exact hown1
      · simp [intOf]
        omega
    · obtain rfl : k = l.length := by omega
      rw [List.take_length] at hO
      have H := Lib.hid hO.ret
      clear hO
      go_wp2
      go_ret
      exact H.out

set_option maxRecDepth 100000 in
set_option maxHeartbeats 1000000 in
theorem texts_any (A : Option Addr) (c : Nat) (l : List Int) (w : World) (hR : Reads w 1 A l.length (iv l)) (hl : l.length ≤ 100000) :
    Calls Tryd.prog 34 #[.slice A l.length c] w (RetTs w (l.map textOf)) := by
  have HR := Lib.hid hR
  have HT := fun n W => Lib.hid (text_any n W)
  clear hR
  go_enter Tryd.func34, Tryd.ntmps34
  go_wp2
  go_loopw [3, 8] (fun V vi wr => ∃ k : Nat, k ≤ l.length ∧ vi = .int .i64 (k : Int) ∧ OwnS w wr V ((l.take k).map textOf)) (fun _ vi _ => l.length - (intOf vi).toNat)
  case atStart => exact ⟨0, Nat.zero_le _, rfl, OwnS.nil w⟩
  case round =>
    obtain ⟨k, hk, rfl, hO⟩ := hrel
    by_cases hlt : k < l.length
    · obtain ⟨b, o, u, hA, hbw, hu, hcu⟩ := (HR.out.keep0 hO.keep).at_ hlt
      have hu2 : u = .int .i64 l[k] := by
        rw [iv_get hlt] at hu
        cases hu
        rfl
      subst hu2
      have HS : Hid ((l.take (k + 1)).map textOf = (l.take k).map textOf ++ [textOf l[k]]) := by show _ = _; rw [List.take_succ_eq_append_getElem hlt, List.map_append]; rfl
      have hk1 : (k : Int) < (l.length : Int) := by omega
      have hk0 : (0 : Int) ≤ (k : Int) := by omega
      have hHT := HT l[k] wr
      have HE : Hid (textOf l[k] = ⟨(decL (clampN l[k])).toArray⟩) := show _ = _ from rfl
      have hlm : ((l.take k).map textOf).length = k := by simp; omega
      rw [hA]
      generalize l[k] = y at *
      go_wp2_with fail
      refine hHT.out.mono ?_
      rintro e w1 ⟨S, rfl, hS, k1⟩
      have HSt : Hid (S = textOf y) := by show _ = _; rw [HE.out]; exact bytes_eq hS
      have O1 := hO.keep0 k1
      have hrow := O1.row
      have hsz := O1.keep.size
      rw [hlm] at hrow
      clear hS hHT HE
      go_wp2_with (at_builtin; refine wpList_append_one rfl (.tmp 12) (.tmp 15) 55 rfl slice_strS hrow rfl rfl (us := [.string S]) rfl (by simp [Value.oneCell']) hsz (by omega) (by unfold maxLen; omega) ?_; intro v' w2 hown1 hgrow1 hat1)
      refine ⟨⟨k + 1, by omega, by go_num, ?_⟩, ?_⟩
      · rw [HS.out]
        refine O1.app hgrow1 ?_
        rw [List.length_append, hlm, strsV_append, ← HSt.out]
        exact hown1
      · simp [intOf]
        omega
    · obtain rfl : k = l.length := by omega
      rw [List.take_length] at hO
      have H := Lib.hid hO.ret
      clear hO
      go_wp2
      go_ret
      exact H.out
end Go.Proofs.YteocldlglklnjaaDoor
