/- An append in a region that draws its order. Condition: the row's own. -/
import Derived.Test.YteanpgkonhdbpaaJrHelp
import Derived.Test.YteanpgkonhdbpaaPend
namespace Go.Proofs.Yteanpgkonhdbpaa
open Go.RowKit

theorem op_app_readsJ {P : Program} {ops : Array Oper} {Q : Exit → Act → World → Prop} {K : Act → World → Prop} {a : Act} {wr : World} {dst : Option Tmp} {tyy : TypeId} {pos : String} {after : Array Edge} {gd : Option (Nat × Bool)} (i : Nat) {s x : Operand} {t e : TypeId} {size bytes : Nat}
    (hi : ops[i]? = some ⟨dst, .call { callee := .builtin .append, args := #[s, x], argTypes := #[t, t] }, tyy, pos, after, gd⟩) (hw : Region.wanted ⟨dst, .call { callee := .builtin .append, args := #[s, x], argTypes := #[t, t] }, tyy, pos, after, gd⟩ (yielded ops a.tmps) = true)
    (hS : SliceOf P t e size bytes) {base : Nat} {v : Value} {n : Nat} {xs : List Value} (hs : a.eval s = v) (hown : wr.ownsRow base e size v n xs) {A : Option Addr} {m c : Nat} {news : List Value} (hx : a.eval x = .slice A m c) (hr : Reads wr size A m news) (h1 : ∀ u ∈ news, u.oneCell' = true)
    (h63 : n + m ≤ maxLen) (hb : (n + m) * bytes ≤ 140737488355328) (hbase : base ≤ wr.heap.size)
    (h : ∀ v' w', w'.ownsRow base e size v' (n + m) (xs ++ news) → Keep v.ownBlock.toList wr w' → (v'.ownBlock = v.ownBlock ∨ v'.ownBlock = some wr.heap.size) → K (a.put dst v') w') : wpOp P ops Q i K a wr := by
  obtain ⟨v', w', hrun, h2, h3, h4⟩ := run_append_reads (P := P) base t tyy hS v n xs hown A m c news hr h1 h63 hb hbase
  refine op_run (v := v') (w' := w') i hi hw ?_ (h v' w' h2 h3 h4)
  simp [execOp, resolve, invoke, builtin, hs, hx, hrun, Result.andThen]
theorem own_lower {w : World} {b b' : Nat} {e : TypeId} {size n : Nat} {v : Value} {xs : List Value} (h : w.ownsRow b e size v n xs) (hb : b' ≤ b) : w.ownsRow b' e size v n xs := by
  refine ⟨h.1, ?_⟩
  rcases h.2 with h2 | ⟨g, cap, cur, h1, h2, h3⟩
  · exact .inl h2
  · exact .inr ⟨g, cap, cur, h1, Nat.le_trans hb h2, h3⟩
end Go.Proofs.Yteanpgkonhdbpaa
