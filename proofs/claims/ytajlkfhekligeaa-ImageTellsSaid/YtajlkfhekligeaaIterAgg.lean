/- Whole structs loaded, and several values appended, in a round of a range over a function; pairs of ints. No condition. -/
import Derived.Test.YtajlkfhekligeaaIter
import Derived.Test.YtajlkfhekligeaaEqI
namespace Go.Proofs.Ytajlkfhekligeaa
open Go.RowKit
attribute [local go_sem] Oper.semAt_some

section
variable {P : Program} {ops : Array Oper} {rest : List Oper} {o : Oper} {a : Act} {Q : Exit → Act → World → Prop} {w : World} {F : Fence} {n' : Nat}
/-- A whole struct or array loaded, in a round. -/
theorem wpListIn_agg (hgd : o.guard = none) (ty : TypeId) (x : Operand) (ho : o.op = .load ty x) {b f : Nat} (hx : a.eval x = .pointer (some ⟨b, f, none⟩)) {cs : List Value} (hA : AggOf P ty cs.length) (hc : CellsAt w b f cs)
    (h : wpListIn F n' P ops Q rest (a.put o.dst (.agg cs.toArray)) w) : wpListIn F n' P ops Q (o :: rest) a w := by
  refine wpListIn_plain hgd fun K hK => ?_
  unfold Oper.wpIn
  refine ⟨?_, ?_⟩
  · simp [Oper.about, ho]
  · rw [Oper.semAt_plain F _ _ (by rw [ho]; intro c hc'; cases hc')]
    simp only [execOp, ho, hx, Instr.loadAt, Instr.sureAddr, Sem.run_bind, Sem.run_pure, Result.andThen_ok, run_loadVar_agg hA hc]
    exact hK _ _ h
/-- 'out = append(out, x, y, ..)', in a round. -/
theorem wpListIn_app_lit {e : TypeId} {wr : World} {us : List Value} (m : Nat)
    (hgd : o.guard = none) (s x : Operand) (t : TypeId) (ho : o.op = .call { callee := .builtin .append, args := #[s, x], argTypes := #[t, t] })
    {size bytes : Nat} (hS : SliceOf P t e size bytes) {B : Nat} {v : Value} {n : Nat} {xs : List Value} (hown : wr.ownsRow B e size v n xs) (hs : a.eval s = v) (hx : a.eval x = .slice (some ⟨wr.heap.size, 0, none⟩) m m)
    (hl : us.length = m * size) (h1 : ∀ u ∈ us, u.oneCell' = true) (hB : B ≤ wr.heap.size) (hb : (n + m) * bytes ≤ 140737488355328) (h63 : n + m ≤ maxLen)
    (h : ∀ v' w', w'.ownsRow B e size v' (n + m) (xs ++ us) → Keep v.ownBlock.toList wr w' → (v'.ownBlock = v.ownBlock ∨ v'.ownBlock = some (wr.heap.size + 1)) → wpListIn F n' P ops Q rest (a.put o.dst v') w') :
    wpListIn F n' P ops Q (o :: rest) a (wr.alloc (.cells us.toArray e)) := by
  obtain ⟨ht, ⟨i, z, hi, hz, hsz, hby, hzs⟩, hpos⟩ := hS.parts
  obtain ⟨v', w', hr, h2, h3, _, h5⟩ := run_append_own_at (P := P) (wr.alloc (.cells us.toArray e)) B t o.type e i z size bytes ht hi hz hsz hby hzs hpos v n xs (hown.alloc _) ⟨wr.heap.size, 0, none⟩ m m us hl
    (by
      intro j u hu
      rw [add_of_block]
      show World.cell? _ _ = _
      simp only [World.cell?, heap_alloc_new]
      simpa using hu) h1 h63 hb (by simp; omega)
  refine wpListIn_plain hgd fun K hK' => ?_
  unfold Oper.wpIn
  refine ⟨?_, ?_⟩
  · simp [Oper.about, ho, resolve, Target.leads, Sem.run_pure]
  · rw [Oper.semAt_plain F _ _ (by rw [ho]; intro c hc'; cases hc')]
    simp [execOp, ho, resolve, invoke, builtin, hs, hx, hr, Result.andThen]
    exact hK' _ _ (h v' w' h2 (((Keep.refl _ wr).alloc _).trans (Keep.of_grown h3) (fun x hx _ => hx)) (by simpa using h5))
end

/-- Pairs of ints, as an iterator hands them on. -/
abbrev PII := Int × Int
def encPII (x : PII) : Array Value := #[.int .i64 x.1, .int .i64 x.2]
def flatP (l : List PII) : List Int := l.flatMap (fun x => [x.1, x.2])
theorem flatP_len (l : List PII) : (flatP l).length = 2 * l.length := by
  induction l with
  | nil => rfl
  | cons a l ih => simp only [flatP, List.flatMap_cons, List.length_append, List.length_cons, List.length_nil] at *; omega
theorem flatP_snoc (l : List PII) (x : PII) : flatP (l ++ [x]) = flatP l ++ [x.1, x.2] := by simp [flatP]
end Go.Proofs.Ytajlkfhekligeaa
