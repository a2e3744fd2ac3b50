/- FlashPlays, walked: true, for all sizes and every row of calls. -/
import Derived.Test.YtgonnddgljgghaaLaw06Alive
import Derived.Test.YtgonnddgljgghaaRefNew
namespace Go.Proofs.Ytgonnddgljgghaa
open Go.RowKit

section
variable {P : Program} {ops : Array Oper} {rest : List Oper} {o : Oper} {a : Act} {Q : Exit → Act → World → Prop} {w : World}
/-- A whole struct or array loaded, under a guard that lets it. -/
theorem wpList_load_agg_gd (hgd : Region.wanted o (yielded ops a.tmps) = true) (ty : TypeId) (x : Operand) (ho : o.op = .load ty x) {b f : Nat} (hx : a.eval x = .pointer (some ⟨b, f, none⟩)) {cs : List Value} (hA : AggOf P ty cs.length) (hc : CellsAt w b f cs)
    (h : wpList P ops Q rest (a.put o.dst (.agg cs.toArray)) w) : wpList P ops Q (o :: rest) a w := by
  refine wpList_step fun K hK => ?_
  rw [if_pos hgd]
  unfold Oper.wp execOp
  simp only [ho, hx, Instr.loadAt, Instr.sureAddr, Sem.run_bind, Sem.run_pure, Result.andThen_ok, run_loadVar_agg hA hc]
  exact hK _ _ h
end
theorem agg_fop : AggOf Try.prog 85 4 := ⟨by kernel_rfl, by kernel_rfl⟩
abbrev fopRow (l : List FOp) : List Value := l.flatMap fopCells
theorem fopRow_len (l : List FOp) : (fopRow l).length = l.length * 4 := by
  induction l with
  | nil => rfl
  | cons e l ih => simp only [fopRow, List.flatMap_cons, List.length_append, List.length_cons, List.length_nil] at *; omega
theorem fopRow_at (l : List FOp) : ∀ (k : Nat) (hk : k < l.length) (j : Nat), j < 4 → (fopRow l)[k * 4 + j]? = (fopCells l[k])[j]? := by
  induction l with
  | nil => intro k hk; exact absurd hk (by simp)
  | cons e l ih =>
    intro k hk j hj
    rw [show fopRow (e :: l) = fopCells e ++ fopRow l from rfl]
    cases k with
    | zero => rw [List.getElem?_append_left (by simp; omega)]; simp
    | succ k =>
      rw [List.getElem?_append_right (by simp; omega)]
      have e1 : (k + 1) * 4 + j - (fopCells e).length = k * 4 + j := by simp; omega
      rw [e1, ih k (by simpa using hk) j hj]
      simp
/-- The state behind the first calls. -/
def plays (d : Dev) (l : List FOp) : Dev := l.foldl doS d
theorem plays_ok {d : Dev} (h : d.Ok) : ∀ (l : List FOp), (∀ o ∈ l, o.w < 4294967296 ∧ o.word ≤ 9223372036854775807) → (plays d l).Ok
  | [], _ => h
  | o :: l, ho => plays_ok (doS_ok h o (ho o (by simp)).1 (ho o (by simp)).2) l (fun x hx => ho x (by simp [hx]))
theorem plays_snoc (d : Dev) (l : List FOp) (o : FOp) : plays d (l ++ [o]) = doS (plays d l) o := by simp [plays]
theorem doS_dims (d : Dev) (o : FOp) : (doS d o).ns = d.ns ∧ (doS d o).nw = d.nw ∧ (doS d o).lim = d.lim := by
  unfold doS eraseS progS
  obtain ⟨_, _, _, e4, e5, e6, _⟩ := goes_same d
  obtain ⟨_, _, _, f4, f5, f6, _⟩ := goes_same { d with worn := d.worn.set o.sector.toNat (d.worn.getD o.sector.toNat 0 + 1) }
  split
  · split
    · exact ⟨rfl, rfl, rfl⟩
    · split
      · exact ⟨rfl, rfl, rfl⟩
      · split
        · exact ⟨rfl, rfl, rfl⟩
        · exact ⟨f4, f5, f6⟩
  · split
    · exact ⟨rfl, rfl, rfl⟩
    · split
      · exact ⟨rfl, rfl, rfl⟩
      · split
        · exact ⟨rfl, rfl, rfl⟩
        · split
          · exact ⟨rfl, rfl, rfl⟩
          · split
            · exact ⟨rfl, rfl, rfl⟩
            · dsimp only
              split
              · exact ⟨rfl, rfl, rfl⟩
              · split <;> exact ⟨e4, e5, e6⟩
theorem plays_dims (d : Dev) : ∀ (l : List FOp), (plays d l).ns = d.ns ∧ (plays d l).nw = d.nw ∧ (plays d l).lim = d.lim
  | [] => ⟨rfl, rfl, rfl⟩
  | o :: l => by
    obtain ⟨h1, h2, h3⟩ := doS_dims d o
    obtain ⟨g1, g2, g3⟩ := plays_dims (doS d o) l
    exact ⟨g1.trans h1, g2.trans h2, g3.trans h3⟩

abbrev szV (s q l : Int) : Value := .agg #[.int .i64 s, .int .i64 q, .int .i64 l]

set_option maxRecDepth 100000 in
set_option maxHeartbeats 1000000 in
theorem flashPlays_many (s q l : Int) (A : Option Addr) (n c : Nat) (w : World) (hn : 60 < n) (hm : n ≤ maxLen) :
    Calls Try.prog 9 #[szV s q l, .slice A n c] w fun e w' => e = .returned (.bool true) ∧ Keep [] w w' := by
  unfold maxLen at hm
  go_enter Try.func9, Try.ntmps9
  go_wp2_with fail
  go_ret
  exact ⟨rfl, (Keep.refl _ _).alloc _⟩

set_option maxRecDepth 100000 in
set_option maxHeartbeats 1000000 in
theorem flashPlays_no (s q l : Int) (A : Option Addr) (n c : Nat) (w : World) (hn : n ≤ 60) (h : newOk s q l = false) :
    Calls Try.prog 9 #[szV s q l, .slice A n c] w fun e w' => e = .returned (.bool true) ∧ Keep [] w w' := by
  have HR := fun W => Lib.hid (rnew_no s q l W h)
  have HN := fun W => Lib.hid (fnew_no s q l W h)
  have HA : Hid (AggOf Try.prog 78 10) := agg_ref
  clear h
  go_enter Try.func9, Try.ntmps9
  go_wp2_with fail
  refine (HR _).out.mono ?_
  rintro e w1 ⟨rfl, k1⟩
  have K1 := Lib.hid (((Keep.refl [] w).alloc (.cells #[.int .i64 s, .int .i64 q, .int .i64 l] 71)).then k1)
  have b1 := (Blk.new w 71 #[.int .i64 s, .int .i64 q, .int .i64 l]).keep0 k1
  have d0 := b1.cell 0
  have d1 := b1.cell 1
  have d2 := b1.cell 2
  simp at d0 d1 d2
  have hlt := b1.lt
  have HB1 := Lib.hid b1
  clear b1 k1
  go_wp2_with (refine stop_store 78 (.tmp 5) (.tmp 26) rfl ?_)
  constructor
  refine wpList_store_all rfl 78 (.tmp 5) (.tmp 26) rfl rfl rfl (t := 78) (cs := zeroD) (vs := zeroD.toList) HA.out.2 (Blk.new _ _ _) (by simp [Value.oneCell']) rfl ?_
  intro w2 e2 k2
  have kk : Keep [] w w2 := (K1.out.alloc (.cells zeroD 78)).trans k2 (by have := K1.out.size; simp; omega)
  have b2 := (HB1.out.alloc (.cells zeroD 78)).keep k2 (by simp; omega)
  have d0' := b2.cell 0
  have d1' := b2.cell 1
  have d2' := b2.cell 2
  simp at d0' d1' d2'
  have KK := Lib.hid kk
  clear kk b2 k2 e2
  go_wp2_with fail
  refine (HN _).out.mono ?_
  rintro e w3 ⟨rfl, rfl⟩
  go_wp2_with fail
  refine (alive06 _).mono ?_
  rintro e w3 ⟨rfl, k3⟩
  go_wp2_with fail
  go_ret
  exact ⟨rfl, KK.out.then k3⟩
end Go.Proofs.Ytgonnddgljgghaa
