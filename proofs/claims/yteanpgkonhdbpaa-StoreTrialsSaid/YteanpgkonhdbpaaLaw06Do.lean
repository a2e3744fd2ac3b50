/- The law's Do, walked: device and reference go the same step. -/
import Derived.Test.YteanpgkonhdbpaaFlashOk
import Derived.Test.YteanpgkonhdbpaaReg
namespace Go.Proofs.Yteanpgkonhdbpaa
open Go.RowKit

theorem hltG (g b1 b2 : Nat) (G : List Nat) (w W : World) (h0 : g < w.heap.size) (h1 : b1 < w.heap.size) (h2 : b2 < w.heap.size) (hG : ∀ x ∈ G, x < w.heap.size) (hW : w.heap.size ≤ W.heap.size) : ∀ x ∈ g :: b1 :: b2 :: G, x < W.heap.size := by
  intro x hx
  simp only [List.mem_cons] at hx
  rcases hx with rfl | rfl | rfl | hx
  · omega
  · omega
  · omega
  · have := hG x hx; omega
theorem memG3 (g b1 b2 : Nat) (G : List Nat) (x : Nat) (hx : x ∈ [g, b1, b2]) : x ∈ g :: b1 :: b2 :: G := by
  simp only [List.mem_cons, List.not_mem_nil, or_false] at hx
  simp only [List.mem_cons]
  rcases hx with h | h | h
  · exact .inl h
  · exact .inr (.inl h)
  · exact .inr (.inr (.inl h))
theorem memG (g b1 b2 : Nat) (G : List Nat) {a : World} : ∀ x, x ∈ [g, b1, b2] → x < a.heap.size → x ∈ g :: b1 :: b2 :: G := fun x hx _ => memG3 g b1 b2 G x hx
def RetDo (base : Nat) (G : List Nat) (w : World) (g b1 b2 : Nat) (d : Dev) (en : Ending) (w' : World) : Prop :=
  ∃ A1 A2 c1 c2, en = .returned (.tuple #[.agg (refV d A1 A2 c1 c2).toArray, .bool true]) ∧ DevAt w' g b1 b2 d ∧ ROwn base (g :: b1 :: b2 :: G) w' A1 A2 c1 c2 d ∧ Keep [g, b1, b2] w w'
theorem kindM_facts (k : Int) : -8 < k.tmod 8 ∧ k.tmod 8 < 8 ∧ (k.tmod 8 + 8) % 8 = kindM k := by
  have h1 : -8 < k.tmod 8 := Int.lt_tmod_of_pos k (by decide)
  have h2 : k.tmod 8 < 8 := Int.tmod_lt_of_pos k (by decide)
  refine ⟨h1, h2, ?_⟩
  unfold kindM
  exact (Int.tmod_eq_emod_of_nonneg (by omega)).symm

theorem ROwn.keepLt {base : Nat} {F G : List Nat} {w w' : World} {A1 A2 : Option Addr} {c1 c2 : Nat} {d : Dev} (h : ROwn base F w A1 A2 c1 c2 d) (k : Keep G w w') (h1 : ∀ y, (Value.slice A1 d.bits.length c1).ownBlock = some y → y ∉ G) (h2 : ∀ y, (Value.slice A2 d.worn.length c2).ownBlock = some y → y ∉ G) :
    ROwn base F w' A1 A2 c1 c2 d := ⟨own_keep h.bits k h1, own_keep h.worn k h2, h.off1, h.off2⟩
theorem ROwn.notBlk1 {base : Nat} {F : List Nat} {w : World} {A1 A2 : Option Addr} {c1 c2 : Nat} {d : Dev} (h : ROwn base F w A1 A2 c1 c2 d) {g t : Nat} {cs : Array Value} (hb : Blk w g t cs) (ht : 33 ≠ t) {y : Nat} (hy : (Value.slice A1 d.bits.length c1).ownBlock = some y) : y ≠ g := by
  rintro rfl
  exact own_blk_ne h.bits hb ht hy
theorem ROwn.notBlk2 {base : Nat} {F : List Nat} {w : World} {A1 A2 : Option Addr} {c1 c2 : Nat} {d : Dev} (h : ROwn base F w A1 A2 c1 c2 d) {g t : Nat} {cs : Array Value} (hb : Blk w g t cs) (ht : 3 ≠ t) {y : Nat} (hy : (Value.slice A2 d.worn.length c2).ownBlock = some y) : y ≠ g := by
  rintro rfl
  exact own_blk_ne h.worn hb ht hy

section
variable (base g b1 b2 : Nat) (G : List Nat) (A1 A2 : Option Addr) (c1 c2 : Nat) (d : Dev) (o : FOp) (w : World) (hd : DevAt w g b1 b2 d) (hr : ROwn base (g :: b1 :: b2 :: G) w A1 A2 c1 c2 d) (ho : d.Ok) (hbase : base ≤ w.heap.size) (hG : ∀ x ∈ G, x < w.heap.size)
include hd hr ho hbase hG

end
end Go.Proofs.Yteanpgkonhdbpaa
