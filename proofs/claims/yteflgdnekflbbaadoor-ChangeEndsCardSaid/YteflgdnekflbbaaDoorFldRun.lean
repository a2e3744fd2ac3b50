/- A field of a struct value, run. No condition. -/
import Derived.Test.YteflgdnekflbbaaDoorPend
import Derived.Great.BuildSlice
namespace Go.Proofs.YteflgdnekflbbaaDoor
open Go.RowKit

/-- A field of a struct value, the field of one cell. -/
theorem run_field_one {P : Program} {t : TypeId} {fs : Array Field} (ht : P.underlying t = some (.struct fs)) {k : Nat} {f : Field} (hf : fs[k]? = some f) {d : TypeDesc} (he : P.underlying f.type = some d) (hd : (match d with | .struct _ | .array _ _ => false | _ => true) = true)
    (hs : (P.info? f.type).map (·.size) = some 1) {cs : Array Value} {v : Value} (hv : cs[f.offset]? = some v) (w : World) : (Instr.field t (.agg cs) k).run P w = .ok v w := by
  cases hq : P.info? f.type with
  | none => simp [hq] at hs
  | some i =>
    have h1 : i.size = 1 := by simpa [hq] using hs
    have hagg : (isAgg f.type).run P w = .ok false w := by
      unfold isAgg
      rw [Sem.run_bind, run_underlying he w]
      cases d <;> simp_all
    simp [Instr.field, asAgg, run_underlying ht, hf, Sem.run_bind, sizeOf, typeInfo, hq, h1, part, hagg, hv]
/-- A field of a struct value that is a struct itself. -/
theorem run_field_part {P : Program} {t : TypeId} {fs : Array Field} (ht : P.underlying t = some (.struct fs)) {k : Nat} {f : Field} (hf : fs[k]? = some f) {gs : Array Field} (he : P.underlying f.type = some (.struct gs))
    {n : Nat} (hs : (P.info? f.type).map (·.size) = some n) {cs : Array Value} (w : World) : (Instr.field t (.agg cs) k).run P w = .ok (.agg (cs.extract f.offset (f.offset + n))) w := by
  cases hq : P.info? f.type with
  | none => simp [hq] at hs
  | some i =>
    have h1 : i.size = n := by simpa [hq] using hs
    have hagg : (isAgg f.type).run P w = .ok true w := by
      unfold isAgg
      rw [Sem.run_bind, run_underlying he w]
      rfl
    simp [Instr.field, asAgg, run_underlying ht, hf, Sem.run_bind, sizeOf, typeInfo, hq, h1, part, hagg]
/-- A slice literal of one aggregate. -/
theorem exec_slice_oneC {P : Program} {t e : TypeId} {size bytes : Nat} (hS : SliceOf P t e size bytes) {cs : List Value} (hl : cs.length = size) (hb : size ≤ 1000) {ev : Operand → Value} {x : Operand} (hx : ev x = .agg cs.toArray) (w : World) {dst : Option Tmp} {ty : TypeId} {pos : String} {after : Array Edge} {gd : Option (Nat × Bool)} :
    (execOp ev ⟨dst, .buildSlice t 1 #[(0, x)], ty, pos, after, gd⟩).run P w = .ok (.value (.slice (some ⟨w.heap.size, 0, none⟩) 1 1)) (w.alloc (.cells cs.toArray e)) := by
  obtain ⟨ht, ⟨i, z, hi, hz, hsz, _, hzs⟩, hpos⟩ := hS.parts
  have hf : Instr.fill (fun j => some (j * i.size, i.size)) ((Array.range (1 * i.size)).map (z.cells[· % z.cells.size]!)) #[(0, Value.agg cs.toArray)].toList = some cs.toArray := by
    have := Great.fill_whole (s := i.size) (by omega) [Value.agg cs.toArray] ((Array.range (1 * i.size)).map (z.cells[· % z.cells.size]!)) (by simp [Value.cells, hl, hsz]) (by simp)
    simpa [Value.cells] using this
  have h := run_buildSlice (P := P) w t e 1 #[(0, Value.agg cs.toArray)] cs.toArray i z ht hi hz (by omega) (by omega) hf
  unfold execOp
  simp [hx, h]
section
variable {P : Program} {ops rest : List Oper} {o : Oper} {a : Act} {Q : Exit → Act → World → Prop} {w : World}
theorem wpList_runsC {ops : Array Oper} (hgd : o.guard = none) {v : Value} {w' : World} (he : (execOp a.eval o).run P w = .ok (.value v) w') (h : wpList P ops Q rest (a.put o.dst v) w') : wpList P ops Q (o :: rest) a w := by
  refine wpList_plain hgd fun K hK => ?_
  unfold Oper.wp
  rw [he]
  exact hK _ _ h
end
end Go.Proofs.YteflgdnekflbbaaDoor
