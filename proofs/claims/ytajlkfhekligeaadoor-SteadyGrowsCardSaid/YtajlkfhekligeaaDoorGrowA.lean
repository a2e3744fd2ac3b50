/- The image of which one task takes longer, in memory; no condition. -/
import Derived.Test.YtajlkfhekligeaaDoorStLaw4
import Derived.Test.YtajlkfhekligeaaDoorLaw18A
namespace Go.Proofs.YtajlkfhekligeaaDoor
open Go.RowKit

theorem slice_task18 : SliceOf Tryd.prog 22 39 11 88 := ⟨Tryd.underlying22, by kernel_rfl, by decide⟩
theorem tasks_one (l : List Tsk) : ∀ u ∈ l.flatMap tskCells, u.oneCell' = true := by
  intro u hu
  obtain ⟨a, _, ha⟩ := List.mem_flatMap.1 hu
  exact iv_one _ u ha

theorem flat_set18 {α : Type} {cells : α → List Value} {size : Nat} : ∀ (l : List α), (∀ a ∈ l, (cells a).length = size) → ∀ (k j : Nat) (hk : k < l.length) (a' : α) (u : Value), j < size → cells a' = (cells l[k]).set j u →
    (l.flatMap cells).set (k * size + j) u = (l.set k a').flatMap cells
  | [], _, k, j, hk, a', u, hj, he => by simp at hk
  | a :: l, h, k, j, hk, a', u, hj, he => by
    have ha := h a (by simp)
    cases k with
    | zero =>
      rw [List.set_cons_zero, List.flatMap_cons, List.flatMap_cons, he, List.set_append_left _ _ (by omega), Nat.zero_mul, Nat.zero_add]; rfl
    | succ k =>
      rw [List.set_cons_succ, List.flatMap_cons, List.flatMap_cons, List.set_append_right _ _ (by rw [ha, Nat.add_mul]; omega), ha, show (k + 1) * size + j - size = k * size + j by rw [Nat.add_mul]; omega,
        flat_set18 l (fun b hb => h b (by simp [hb])) k j (by simpa using hk) a' u hj (by simpa using he)]
theorem grownT_yes {l : List Tsk} {k : Nat} (hk : k < l.length) (h8 : ∀ t ∈ l, t.lon.length = 8) (h : l[k].cost < l[k].ded) : (grownT l k).flatMap tskCells = (l.flatMap tskCells).set (k * 11 + 2) (.int .i64 (l[k].cost + 1)) := by
  unfold grownT
  rw [List.getElem?_eq_getElem hk]
  symm
  refine flat_set18 l (fun t ht => tskCells_len (h8 t ht)) k 2 hk (longer l[k]) _ (by decide) ?_
  unfold longer
  rw [if_pos h]
  rfl
theorem grownT_no {l : List Tsk} {k : Nat} (hk : k < l.length) (h : ¬ l[k].cost < l[k].ded) : grownT l k = l := by
  unfold grownT
  rw [List.getElem?_eq_getElem hk]
  show l.set k (longer l[k]) = l
  unfold longer
  rw [if_neg h, List.set_getElem_self]
theorem grown_ok {x : Img} (h : x.Ok) (k : Nat) : (grown x k).Ok := by
  refine ⟨fun u hu => ?_, h.offs, h.mp, h.set⟩
  obtain ⟨t, ht, e⟩ := grownT_mem hu
  rcases e with rfl | rfl
  · exact h.lon _ ht
  · rw [longer_lon]; exact h.lon _ ht
theorem grown_at {w W : World} {v : ImgV} {x : Img} (h : ImgAt w v x) (kk : Keep [] w W) (k B : Nat) (tA : Option Addr) (tc : Nat) (o : W.ownsRow B 39 11 (.slice tA x.tasks.length tc) x.tasks.length ((grownT x.tasks k).flatMap tskCells)) :
    ImgAt W ⟨tA, tc, v.ma, v.mc, v.ea, v.ec, v.qa⟩ (grown x k) := by
  have h' := h.keep0 kk
  have hl : (grown x k).tasks.length = x.tasks.length := grownT_len x.tasks k
  have hr := Reads.of_own o
  rw [← hl] at hr
  exact ⟨grown_ok h.ok k, h'.ql, hr, h'.modes, h'.edges, h'.queues, by rw [hl]; exact h'.lt, h'.lm, h'.le, h'.lq⟩
theorem grown_cells (v : ImgV) (x : Img) (k : Nat) (tA : Option Addr) (tc : Nat) : imgCells ⟨tA, tc, v.ma, v.mc, v.ea, v.ec, v.qa⟩ (grown x k) = [.int .i64 x.res, .slice tA x.tasks.length tc, .slice v.ma x.modes.length v.mc, .slice v.ea x.edges.length v.ec] := by
  unfold imgCells
  rw [show (grown x k).tasks.length = x.tasks.length from grownT_len x.tasks k]; rfl
/-- An empty row, made by 'T{}'. -/
theorem own_empty (w : World) (e : TypeId) (size : Nat) : (w.alloc (.cells #[] e)).ownsRow w.heap.size e size (.slice (some ⟨w.heap.size, 0, none⟩) 0 0) 0 [] :=
  ⟨by simp, .inr ⟨w.heap.size, 0, #[], rfl, Nat.le_refl _, heap_alloc_new w _, Nat.le_refl _, by unfold maxLen; omega, by simp, by simp⟩⟩
section
variable {P : Program} {ops : Array Oper} {rest : List Oper} {o : Oper} {a : Act} {Q : Exit → Act → World → Prop} {w : World}
/-- One cell stored. -/
theorem wpList_store1 (hgd : o.guard = none) (ty : TypeId) (x y : Operand) (ho : o.op = .store ty x y) {b f : Nat} {u v : Value} (hx : a.eval x = .pointer (some ⟨b, f, none⟩)) (hy : a.eval y = v) (hz : (P.info? ty).map (·.size) = some 1) (hv : v.cells = #[v]) (h1 : v.oneCell' = true)
    (hc : w.cell? ⟨b, f, none⟩ = some u) (hf : w.frozen? ⟨b, f, none⟩ = false) (h : wpList P ops Q rest (a.put o.dst undef) (w.setCell ⟨b, f, none⟩ v)) : wpList P ops Q (o :: rest) a w := by
  have hst : (storeVar ty ⟨b, f, none⟩ v).run P w = .ok () (w.setCell ⟨b, f, none⟩ v) := by
    cases hq : P.info? ty with
    | none => simp [hq] at hz
    | some i =>
      have hs : i.size = 1 := by simpa [hq] using hz
      have hst1 : (store (⟨b, f, none⟩ : Addr) v).run P w = .ok () (w.setCell ⟨b, f, none⟩ v) := by
        rw [run_store P w _ v _ h1, hc, hf]; rfl
      have e0 : (⟨b, f, none⟩ : Addr).add 0 = ⟨b, f, none⟩ := by simp [Addr.add]
      simp [storeVar, Sem.run_bind, sizeOf, typeInfo, hq, hs, hv, storeCells, e0, hst1, Result.andThen]
  refine wpList_plain hgd fun K hK => ?_
  unfold Oper.wp execOp
  simp only [ho, hx, hy, Instr.storeAt, Instr.sureAddr, Sem.run_bind, Sem.run_pure, Result.andThen_ok, hst]
  exact hK _ _ h
end
section
variable {P : Program} {md : Region.Mode} {ops : Array Oper} {Q : Exit → Act → World → Prop} {p : Nat} {S : World → Prop} {fuel : Nat} {listed : Array Bool} {a : Act} {w : World}
/-- Two operations that may come up next. -/
theorem ap_two (i j : Nat) (hr : Region.ready md ops listed = [i, j]) (h1 : wpOp P ops Q i (fun a' w' => ((listed.setIfInBounds i true).getD p true = false → S w') ∧ wpAnyP P md ops Q p S fuel (listed.setIfInBounds i true) a' w') a w)
    (h2 : wpOp P ops Q j (fun a' w' => ((listed.setIfInBounds j true).getD p true = false → S w') ∧ wpAnyP P md ops Q p S fuel (listed.setIfInBounds j true) a' w') a w) :
    wpAnyP P md ops Q p S (fuel + 1) listed a w :=
  ⟨fun h0 => (by rw [hr] at h0; cases h0), fun q hq => by
    rw [hr] at hq
    simp at hq
    rcases hq with rfl | rfl
    · exact h1
    · exact h2⟩
end
end Go.Proofs.YtajlkfhekligeaaDoor
