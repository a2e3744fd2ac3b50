/- codec's reader, where it stands while a struct is read; and laws of regions that draw their order, within a fence. No condition. -/
import Derived.Test.YtfgjcjpemlgnmaaDoorCrNext
namespace Go.Proofs.YtfgjcjpemlgnmaaDoor
open Go.RowKit

section
variable {F : Fence} {n : Nat} {P : Program} {ops : Array Oper} {Q : Exit → Act → World → Prop} {md : Region.Mode} {S : World → Prop} {fuel : Nat} {listed : Array Bool} {a : Act} {w : World}
theorem ai_two (i j : Nat) (hr : Region.ready md ops listed = [i, j]) (h1 : wpOpIn F n P ops Q i (fun a' w' => S w' ∧ wpAnyI F n P md ops Q S fuel (listed.setIfInBounds i true) a' w') a w)
    (h2 : wpOpIn F n P ops Q j (fun a' w' => S w' ∧ wpAnyI F n P md ops Q S fuel (listed.setIfInBounds j true) a' w') a w) : wpAnyI F n P md ops Q S (fuel + 1) listed a w :=
  ⟨fun h0 => (by rw [hr] at h0; cases h0), fun k hk => by
    rw [hr] at hk
    simp at hk
    rcases hk with rfl | rfl
    · exact h1
    · exact h2⟩
variable (i : Nat) {dst : Option Tmp} {op : Op} {tyy : TypeId} {pos : String} {after : Array Edge} {gd : Option (Nat × Bool)} {K : Act → World → Prop}
theorem oi_run {v : Value} {w' : World} (hi : ops[i]? = some ⟨dst, op, tyy, pos, after, gd⟩) (hF : Open F) (hd : NoDef ops) (hw : Region.wanted ⟨dst, op, tyy, pos, after, gd⟩ (yielded ops a.tmps) = true)
    (hy : (execOp a.eval ⟨dst, op, tyy, pos, after, gd⟩).run P w = .ok (.value v) w') (h : K (a.put dst v) w') : wpOpIn F n P ops Q i K a w :=
  wpOp_in hF hd (fun _ _ h => h) (op_run (Q := noOut Q) i hi hw hy h)
theorem oi_store_all {ty : TypeId} {x y : Operand} {g t : Nat} {cs : Array Value} {vs : List Value} (hi : ops[i]? = some ⟨dst, op, tyy, pos, after, gd⟩) (hF : Open F) (hd : NoDef ops) (hw : Region.wanted ⟨dst, op, tyy, pos, after, gd⟩ (yielded ops a.tmps) = true)
    (ho : op = .store ty x y) (hx : a.eval x = .pointer (some ⟨g, 0, none⟩)) (hy : a.eval y = .agg vs.toArray) (hz : (P.info? ty).map (·.size) = some vs.length) (hb : Blk w g t cs) (h1 : ∀ v, v ∈ vs → v.oneCell' = true) (hl : vs.length = cs.size)
    (h : ∀ w', Blk w' g t vs.toArray → Keep [g] w w' → K (a.put dst undef) w') : wpOpIn F n P ops Q i K a w :=
  wpOp_in hF hd (fun _ _ h => h) (op_store_all (Q := noOut Q) i hi hw ho hx hy hz hb h1 hl h)
theorem oi_store1 {ty : TypeId} {x y : Operand} {b f : Nat} {u v : Value} (hi : ops[i]? = some ⟨dst, op, tyy, pos, after, gd⟩) (hF : Open F) (hd : NoDef ops) (hw : Region.wanted ⟨dst, op, tyy, pos, after, gd⟩ (yielded ops a.tmps) = true)
    (ho : op = .store ty x y) (hx : a.eval x = .pointer (some ⟨b, f, none⟩)) (hy : a.eval y = v) (hz : (P.info? ty).map (·.size) = some 1) (hv : v.cells = #[v]) (h1 : v.oneCell' = true)
    (hc : w.cell? ⟨b, f, none⟩ = some u) (hf : w.frozen? ⟨b, f, none⟩ = false) (h : K (a.put dst undef) (w.setCell ⟨b, f, none⟩ v)) : wpOpIn F n P ops Q i K a w :=
  wpOp_in hF hd (fun _ _ h => h) (op_store1 (Q := noOut Q) i hi hw ho hx hy hz hv h1 hc hf h)
/-- A region, its post named. -/
theorem region_post {c : Code} (Post : Act → World → Prop) (htree : ∀ Q' : Exit → Act → World → Prop, (∀ a' w', Post a' w' → Q' .normal a' w') → c.wpIn F n P Q' a w) (hcont : ∀ a' w', Post a' w' → Q .normal a' w') : c.wpIn F n P Q a w := htree Q hcont
end
theorem next_st (R : Nat) (A : Option Addr) (c : Nat) (l : List Int) (st : Nat × Bool) (most : Int) (w : World) (hb : RdrAt w R A c l st) (hW : Words w R A l) (hp : st.1 ≤ l.length) :
    Calls Tryd.prog 23 #[.pointer (some ⟨R, 0, none⟩), .int .i64 most] w fun e w' =>
      e = .returned (.int .i64 (nextM l st most).1) ∧ RdrAt w' R A c l (nextM l st most).2 ∧ Keep [R] w w' := by
  obtain ⟨p, bad⟩ := st
  exact next_any R A c l p bad most w hb hW hp
/-- Where a reading function stands: its box, the reader, the words, and what else must stay. -/
structure RdrI (base R bx : Nat) (A : Option Addr) (c : Nat) (l : List Int) (X : World → Prop) (st : Nat × Bool) (W : World) : Prop where
  box : Blk W bx 72 #[.pointer (some ⟨R, 0, none⟩)]
  rdr : RdrAt W R A c l st
  wds : Reads W 1 A l.length (uw l)
  le : st.1 ≤ l.length
  ext : X W
  siz : base ≤ W.heap.size
structure RdrF (base R bx : Nat) (A : Option Addr) (l : List Int) (X : World → Prop) : Prop where
  hR : R < base
  hbx : bx < base ∧ bx ≠ R
  hA : 0 < l.length → ∃ b o, A = some ⟨b, o, none⟩ ∧ b < base ∧ b ≠ R
  lt : ∀ n ∈ l, 0 ≤ n ∧ n < 4294967296
  len : l.length ≤ 100000
  ext : ∀ (W W' : World) (F : List Nat), X W → Keep F W W' → (∀ y ∈ F, y = R ∨ base ≤ y) → X W'
section
variable {base R bx : Nat} {A : Option Addr} {c : Nat} {l : List Int} {X : World → Prop} {st st' : Nat × Bool} {W W' : World} {F : List Nat}
theorem RdrF.reads (hf : RdrF base R bx A l X) (h : Reads W 1 A l.length (uw l)) (k : Keep F W W') (hF : ∀ y ∈ F, y = R ∨ base ≤ y) : Reads W' 1 A l.length (uw l) := by
  by_cases h0 : 0 < l.length
  · obtain ⟨b, o, rfl, h1, h2⟩ := hf.hA h0
    refine h.keep k (fun ad ha hm => ?_)
    cases ha
    rcases hF _ hm with h3 | h3
    · exact h2 h3
    · dsimp only at h3; omega
  · exact ⟨h.len, fun h1 => absurd h1 h0⟩
theorem RdrI.step (hf : RdrF base R bx A l X) (h : RdrI base R bx A c l X st W) (k : Keep F W W') (hF : ∀ y ∈ F, y = R ∨ base ≤ y) (hr : RdrAt W' R A c l st') (hl : st'.1 ≤ l.length) : RdrI base R bx A c l X st' W' :=
  ⟨h.box.keep k (fun hm => by have := hf.hbx; rcases hF _ hm with h1 | h1 <;> omega), hr, hf.reads h.wds k hF, hl, hf.ext W W' F h.ext k hF, Nat.le_trans h.siz k.size⟩
theorem RdrI.keepF (h : RdrI base R bx A c l X st W) (hf : RdrF base R bx A l X) (k : Keep F W W') (hF : ∀ y ∈ F, base ≤ y) : RdrI base R bx A c l X st W' :=
  h.step hf k (fun y hy => .inr (hF y hy)) (h.rdr.keep k (fun hm => by have := hF _ hm; have := hf.hR; omega)) h.le
theorem RdrI.next (h : RdrI base R bx A c l X st W) (hf : RdrF base R bx A l X) (most : Int) : Calls Tryd.prog 23 #[.pointer (some ⟨R, 0, none⟩), .int .i64 most] W fun e W' =>
      e = .returned (.int .i64 (nextM l st most).1) ∧ RdrI base R bx A c l X (nextM l st most).2 W' ∧ Keep [R] W W' := by
  refine (next_st R A c l st most W h.rdr ⟨fun w' k => hf.reads h.wds k (fun y hy => .inl (by simpa using hy)), hf.lt, hf.len⟩ h.le).mono ?_
  rintro e W' ⟨rfl, hr, k⟩
  exact ⟨rfl, h.step hf k (fun y hy => .inl (by simpa using hy)) hr (nextM_le l st most h.le), k⟩
end
end Go.Proofs.YtfgjcjpemlgnmaaDoor
