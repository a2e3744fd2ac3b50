/- Helpers that hand numbers on to a loop's body: what they are told, what they answer, and what a round keeps. No condition. -/
import Derived.Test.YtfgjcjpemlgnmaaDoorRangeB
import Derived.Test.YtfgjcjpemlgnmaaDoorMaskAll
import Derived.Test.YtfgjcjpemlgnmaaDoorCwRight
namespace Go.Proofs.YtfgjcjpemlgnmaaDoor
open Go.RowKit

def encZ (x : Int) : Array Value := #[.int .i64 x]
/-- What an iterator of words may write: cells of these types, from block lb on. -/
def LoW (lb : Nat) (r : Nat) (o : Obj) : Prop := lb ≤ r ∧ ∃ cs t fr, o = .cells cs t fr ∧ t ∈ [4, 57, 47, 65, 70, 86, 3]
/-- What a round of words may write: cells of these types. -/
abbrev UsW : List Nat := [28, 44]
/-- What a round keeps: all that lay below B0; cells that are not of the types of UsW; and what is no cells, from B2 on. -/
structure KpW (B0 B2 : Nat) (W W' : World) : Prop where
  below : Below B0 W W'
  cells : KeepT UsW W W'
  other : KeepsFrom B2 W W'
section
variable {B0 B2 : Nat} {A B C W W' : World}
theorem KpW.refl (W : World) : KpW B0 B2 W W := ⟨Below.refl _ _, ⟨Nat.le_refl _, fun _ _ _ _ _ _ => rfl⟩, KeepsFrom.refl _ _⟩
theorem KpW.trans (h : KpW B0 B2 A B) (k : KpW B0 B2 B C) : KpW B0 B2 A C := ⟨h.below.trans k.below, h.cells.trans k.cells, h.other.trans k.other⟩
theorem KpW.blk (h : KpW B0 B2 W W') {g t : Nat} {cs : Array Value} (hb : Blk W g t cs) (ht : t ∉ UsW) : Blk W' g t cs := (h.cells.2 g cs t (0, 0) hb ht).trans hb
/-- A step that changes nothing that lay at the start. -/
theorem KpW.step {F : List Nat} (h : KpW B0 B2 A B) (k : Keep F B C) (hF : ∀ x, x ∈ F → A.heap.size ≤ x) (hB : B0 ≤ A.heap.size) : KpW B0 B2 A C := by
  have h0 := h.below.size
  refine ⟨h.below.trans ⟨k.os, k.tape, k.output, k.size, fun x hx => k.block x (by omega) (fun hm => by have := hF x hm; omega)⟩, ⟨by have := k.size; omega, fun g cs t fr hg ht => ?_⟩, ⟨by have := k.size; omega, fun x o hx ho hc => ?_⟩⟩
  · have hlt := (Array.getElem?_eq_some_iff.1 hg).1
    exact (k.block g (by omega) (fun hm => by have := hF g hm; omega)).trans (h.cells.2 g cs t fr hg ht)
  · have hlt := (Array.getElem?_eq_some_iff.1 ho).1
    exact (k.block x (by omega) (fun hm => by have := hF x hm; omega)).trans (h.other.same x o hx ho hc)
theorem KpW.own (hB : B0 ≤ A.heap.size) : ∀ {β : Type}, OwnFrom A.heap.size (fun (_ : β) W => KpW B0 B2 A W) := fun {β} s X Y row hs hg hr => by
  have h0 := hs.below.size
  have k : Keep row.toList X Y := Keep.of_grown hg
  exact hs.step k (fun x hx => (hr x (by simpa using hx)).1) hB
end
theorem OwnT.keep0 {β : Type} {B : Nat} {Lo : Nat → Obj → Prop} {I : β → World → Prop} (h : OwnT B Lo I) {s : β} {W W' : World} (hs : I s W) (k : Keep [] W W') : I s W' :=
  h s W W' none hs ⟨k.os, k.tape, k.output, k.size, fun i hi _ => k.block i hi (by simp)⟩ (fun r e => by cases e)
theorem OwnT.keep1 {β : Type} {B lb : Nat} {I : β → World → Prop} (h : OwnT B (LoW lb) I) {s : β} {W W' : World} {g t : Nat} {cs : Array Value} (hs : I s W) (hg : lb ≤ g) (k : Keep [g] W W') (hb : Blk W g t cs) (ht : t ∈ [4, 57, 47, 65, 70, 86, 3]) : I s W' :=
  h s W W' (some g) hs ⟨k.os, k.tape, k.output, k.size, fun i hi hne => k.block i hi (by simpa using fun e => hne (by rw [e]))⟩ (fun r e => by cases e; exact ⟨_, hb, .inr ⟨rfl, hg, _, _, _, rfl, ht⟩⟩)

theorem Same.putO {C : List Nat} {W : World} {l : Nat} (hC : l ∉ C) (o' : Obj) : Same C W (W.putObj l o') := fun k hk => World.putObj_heap_other (fun e => hC (by rw [← e]; exact hk))
/-- The body may be called at each number of xs, in order. -/
def Rounds (l : Nat) (Kp : World → World → Prop) (xs : List Int) (J Jx : List Int → World → Prop) : Prop :=
  ∀ m pre x W1, J pre W1 → pre ++ [x] <+: xs → YieldAt Fence.wide m Tryd.prog l (encZ x) W1 fun e W' => (e = .returned (.bool true) ∧ J (pre ++ [x]) W' ∧ Kp W1 W') ∨ (e = .returned (.bool false) ∧ Jx (pre ++ [x]) W' ∧ Kp W1 W')
/-- All have been handed on, or some, the body having said 'no more'. -/
def Handed (Kp : World → World → Prop) (xs : List Int) (J Jx : List Int → World → Prop) (W : World) (e : Ending) (W' : World) : Prop :=
  (e = .returned (.bool true) ∧ J xs W' ∧ Kp W W') ∨ (e = .returned (.bool false) ∧ ∃ pre, pre <+: xs ∧ Jx pre W')
theorem Rounds.shift {l : Nat} {Kp : World → World → Prop} {all xs : List Int} {J Jx : List Int → World → Prop} (h : Rounds l Kp all J Jx) (pre0 : List Int) (hp : pre0 ++ xs <+: all) : Rounds l Kp xs (fun ys => J (pre0 ++ ys)) (fun ys => Jx (pre0 ++ ys)) := by
  intro m pre x W1 hj hpre
  obtain ⟨r, hr⟩ := hpre
  refine YieldAt.mono (h m (pre0 ++ pre) x W1 hj ?_) fun e W' hw => ?_
  · rw [List.append_assoc]
    refine List.IsPrefix.trans ⟨r, ?_⟩ hp
    rw [← hr]; simp
  · simp only [List.append_assoc] at hw
    exact hw
/-- The next number. -/
theorem Rounds.next {l : Nat} {Kp : World → World → Prop} {xs : List Int} {J Jx : List Int → World → Prop} (h : Rounds l Kp xs J Jx) (m : Nat) (pre post : List Int) (x : Int) (hx : xs = pre ++ x :: post) {W1 : World} (hj : J pre W1) :
    YieldAt Fence.wide m Tryd.prog l #[.int .i64 x] W1 fun e W' => (e = .returned (.bool true) ∧ J (pre ++ [x]) W' ∧ Kp W1 W') ∨ (e = .returned (.bool false) ∧ Jx (pre ++ [x]) W' ∧ Kp W1 W') :=
  h m pre x W1 hj ⟨post, by rw [hx]; simp⟩
end Go.Proofs.YtfgjcjpemlgnmaaDoor
