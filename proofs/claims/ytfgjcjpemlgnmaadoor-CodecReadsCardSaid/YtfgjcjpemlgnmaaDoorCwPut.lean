/- The document's put: numbers as words, behind others; no condition. -/
import Derived.Test.YtfgjcjpemlgnmaaDoorCwEncode
namespace Go.Proofs.YtfgjcjpemlgnmaaDoor
open Go.RowKit

/-- A row of words of the call's own, and what lay at the start is as it was. -/
structure OwnZ (w0 w : World) (V : Value) (l : List Int) : Prop where
  row : w.ownsRow w0.heap.size 44 1 V l.length (wordV l)
  keep : Keep [] w0 w
theorem OwnZ.nil (w : World) : OwnZ w w (.slice none 0 0) [] := ⟨World.ownsRow_nil _ _ _ _, Keep.refl _ _⟩
section
variable {w0 w w' : World} {V V' : Value} {l m : List Int}
theorem OwnZ.shape (h : OwnZ w0 w V l) : ∃ A c, V = .slice A l.length c := own_shape h.row
theorem OwnZ.keep0 (h : OwnZ w0 w V l) (k : Keep [] w w') : OwnZ w0 w' V l := ⟨own_keep0 h.row k, h.keep.then k⟩
theorem OwnZ.blk (h : OwnZ w0 w V l) (k : Keep V.ownBlock.toList w w') {g t : Nat} {cs : Array Value} (hb : Blk w g t cs) (ht : 44 ≠ t) : Blk w' g t cs :=
  hb.keep k (by simpa using own_blk_ne h.row hb ht)
theorem OwnZ.app (h : OwnZ w0 w V l) (k : Keep V.ownBlock.toList w w') (h' : w'.ownsRow w0.heap.size 44 1 V' m.length (wordV m)) : OwnZ w0 w' V' m :=
  ⟨h', h.keep.trans k (fun x hx hlt => by have := (h.row.lt x (by simpa using hx)).1; omega)⟩
theorem OwnZ.ge (h : OwnZ w0 w V l) : ∀ x, x ∈ V.ownBlock.toList → w0.heap.size ≤ x := fun x hx => (h.row.lt x (by simpa using hx)).1
/-- The row lies elsewhere. -/
theorem OwnZ.off (h : OwnZ w0 w V l) {b : Nat} (hb : b < w0.heap.size) : b ∉ V.ownBlock.toList := fun hm => by have := h.ge b hm; omega
end
theorem reads_blk {w : World} {g t : Nat} {vs : List Value} (h : Blk w g t vs.toArray) : Reads w 1 (some ⟨g, 0, none⟩) vs.length vs :=
  ⟨by simp, fun _ => ⟨g, 0, rfl, h.lt, fun j u hu => by rw [Nat.zero_add, h.cell]; simpa using hu⟩⟩

def RetPut (w0 w : World) (V : Value) (l : List Int) (e : Ending) (w' : World) : Prop := ∃ V', e = .returned V' ∧ OwnZ w0 w' V' l ∧ Keep V.ownBlock.toList w w'
set_option maxRecDepth 100000 in
set_option maxHeartbeats 1000000 in
theorem put_any (w0 w : World) (V : Value) (l ns : List Int) (A : Option Addr) (c : Nat) (hO : OwnZ w0 w V l) (hR : ∀ w', Keep V.ownBlock.toList w w' → Reads w' 1 A ns.length (iv ns)) (hlen : l.length + ns.length ≤ 100000) :
    Calls Tryd.prog 21 #[V, .slice A ns.length c] w (RetPut w0 w V (l ++ ns)) := by
  have HR := Lib.hid hR
  have HO := Lib.hid hO
  have hB := hO.keep.size
  clear hR
  go_enter Tryd.func21, Tryd.ntmps21
  go_wp2
  go_loopw [0, 5] (fun v vi wr => ∃ k : Nat, k ≤ ns.length ∧ vi = .int .i64 (k : Int) ∧ OwnZ w0 wr v (l ++ ns.take k) ∧ Keep V.ownBlock.toList w wr ∧ (v.ownBlock = V.ownBlock ∨ ∃ g, v.ownBlock = some g ∧ w.heap.size ≤ g)) (fun _ vi _ => ns.length - (intOf vi).toNat)
  case atStart => exact ⟨0, Nat.zero_le _, rfl, by simpa using hO, Keep.refl _ _, .inl rfl⟩
  case round =>
    obtain ⟨k, hk, rfl, hown, hkw, hob⟩ := hrel
    by_cases hlt : k < ns.length
    · obtain ⟨b, o, u, hA, hbw, hu, hcu⟩ := (HR.out wr hkw).at_ hlt
      have hu2 : u = .int .i64 ns[k] := by
        rw [iv_get hlt] at hu
        cases hu
        rfl
      subst hu2
      have hln : (l ++ ns.take k).length = l.length + k := by simp; omega
      have hrow := hown.row
      have hsz := hown.keep.size
      have hkz := hkw.size
      rw [hln] at hrow
      have hk1 : (k : Int) < (ns.length : Int) := by omega
      have hk0 : (0 : Int) ≤ (k : Int) := by omega
      have HT : Hid (l ++ ns.take (k + 1) = (l ++ ns.take k) ++ [ns[k]]) := by show _ = _; rw [List.take_succ_eq_append_getElem hlt, List.append_assoc]
      rw [hA] at *
      generalize ns[k] = y at *
      go_wp2_with (at_builtin; refine wpList_append_one rfl (.tmp 12) (.tmp 18) 28 rfl slice_u32w hrow rfl rfl (us := [u32v y]) rfl (by simp [u32v, Value.oneCell']) hsz (by omega) (by unfold maxLen; omega) ?_; intro v' w1 hown1 hgrow1 hat1)
      have hl2 : ((l ++ ns.take k) ++ [y]).length = l.length + k + 1 := by rw [List.length_append, hln]; rfl
      refine ⟨⟨k + 1, by omega, by go_num, ?_, hkw.trans hgrow1 (fun x hx hlt => ?_), ?_⟩, ?_⟩
      · rw [HT.out]
        refine hown.app hgrow1 ?_
        rw [hl2, wordV_append]
        exact hown1
      · rcases hob with h | ⟨g, h, hg⟩
        · rwa [h] at hx
        · rw [h] at hx; simp at hx; omega
      · rcases hat1 with h | h
        · rw [h]; exact hob
        · exact .inr ⟨_, h, by omega⟩
      · simp [intOf]
        omega
    · obtain rfl : k = ns.length := by omega
      rw [List.take_length] at hown
      go_wp2
      go_ret
      exact ⟨_, rfl, hown, hkw⟩
end Go.Proofs.YtfgjcjpemlgnmaaDoor
