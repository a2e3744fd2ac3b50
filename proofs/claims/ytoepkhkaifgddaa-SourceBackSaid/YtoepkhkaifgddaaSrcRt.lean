/- The texts of an image that may be: the program's and the document's are one. No condition. -/
import Derived.Test.YtoepkhkaifgddaaSrcT
import Derived.Test.YtoepkhkaifgddaaRightI
import Derived.Test.YtoepkhkaifgddaaImgRC
namespace Go.Proofs.Ytoepkhkaifgddaa
open Go.RowKit

section
variable {P : Program} {ops : Array Oper} {rest : List Oper} {o : Oper} {a : Act} {Q : Exit → Act → World → Prop} {w : World}
/-- A whole struct or array loaded, under a guard that lets it. -/
theorem load_agg_gd (hgd : Region.wanted o (yielded ops a.tmps) = true) (ty : TypeId) (x : Operand) (ho : o.op = .load ty x) {b f : Nat} (hx : a.eval x = .pointer (some ⟨b, f, none⟩)) {cs : List Value} (hA : AggOf P ty cs.length) (hc : CellsAt w b f cs)
    (h : wpList P ops Q rest (a.put o.dst (.agg cs.toArray)) w) : wpList P ops Q (o :: rest) a w := by
  refine wpList_step fun K hK => ?_
  rw [if_pos hgd]
  unfold Oper.wp execOp
  simp only [ho, hx, Instr.loadAt, Instr.sureAddr, Sem.run_bind, Sem.run_pure, Result.andThen_ok, run_loadVar_agg hA hc]
  exact hK _ _ h
end

theorem lonOk_ge {cost res : Int} : ∀ (l : List Int) (r : Nat), lonOk cost res r l = true → ∀ n ∈ l, 0 ≤ n ∧ n ≤ max 0 cost
  | [], _, _, n, hn => by cases hn
  | a :: l, r, h, n, hn => by
    rw [lonOk, Bool.and_eq_true] at h
    have h1 := inR_iff.1 h.1
    rcases List.mem_cons.1 hn with rfl | hm
    · refine ⟨h1.1, Int.le_trans h1.2 ?_⟩
      split <;> omega
    · exact lonOk_ge l (r + 1) h.2 n hm
theorem mapsOk_ge {frm tt : Nat} : ∀ (l : List Int) (k : Nat) (seen : List Int), mapsOk frm tt k seen l = true → ∀ n ∈ l, 0 ≤ n ∧ n ≤ tt
  | [], _, _, _, n, hn => by cases hn
  | a :: l, k, seen, h, n, hn => by
    rw [mapsOk, Bool.and_eq_true, Bool.and_eq_true] at h
    rcases List.mem_cons.1 hn with rfl | hm
    · exact inR_iff.1 h.1.1
    · exact mapsOk_ge l _ _ h.2 n hm
theorem offsOk_ge {prot : Int} {a b : Nat} : ∀ (l : List Int) (k : Nat), offsOk prot a b k l = true → ∀ n ∈ l, 0 ≤ n ∧ n ≤ 16384
  | [], _, _, n, hn => by cases hn
  | c :: l, k, h, n, hn => by
    rw [offsOk, Bool.and_eq_true, Bool.and_eq_true] at h
    rcases List.mem_cons.1 hn with rfl | hm
    · exact inR_iff.1 h.1.1
    · exact offsOk_ge l _ h.2 n hm
theorem RightI.taskIn {x : Img} (h : RightI x) {t : Tsk} (ht : t ∈ x.tasks) : (1 ≤ t.per ∧ t.per ≤ 4096) ∧ (1 ≤ t.ded ∧ t.ded ≤ t.per) ∧ (1 ≤ t.cost ∧ t.cost ≤ t.ded) ∧ ∀ n ∈ t.lon, 0 ≤ n ∧ n ≤ 4096 := by
  have := h.task t ht
  unfold tskOk at this
  simp only [Bool.and_eq_true, inR_iff] at this
  obtain ⟨⟨⟨a, b⟩, c⟩, d⟩ := this
  exact ⟨a, b, c, fun n hn => by have := lonOk_ge _ _ d n hn; omega⟩
theorem RightI.pairsIn {x : Img} (h : RightI x) {e : Edg} (he : e ∈ x.edges) : (∀ n ∈ e.mp, 0 ≤ n ∧ n ≤ 16384) ∧ (∀ n ∈ e.offs, 0 ≤ n ∧ n ≤ 16384) := by
  obtain ⟨k, hk, rfl⟩ := List.getElem_of_mem he
  have := h.edge k hk
  unfold edgOk at this
  simp only [Bool.and_eq_true] at this
  refine ⟨fun n hn => ?_, offsOk_ge _ _ this.2⟩
  have h1 := mapsOk_ge _ _ _ this.1.2 n hn
  refine ⟨h1.1, Int.le_trans h1.2 ?_⟩
  have h2 := (h.edgeIn k hk).2.1
  have hlt : (x.edges[k].to).toNat < x.modes.length := by omega
  rw [List.getD_eq_getElem?_getD, List.getElem?_eq_getElem hlt]
  have h3 := (h.mode _ (List.getElem_mem hlt)).2
  unfold quesOk at h3
  simp only [Bool.and_eq_true, decide_eq_true_eq] at h3
  have := h3.1
  simp only [Option.getD_some]
  omega
theorem flatMap_eq {α β : Type} {f g : α → List β} : ∀ (l : List α), (∀ a ∈ l, f a = g a) → l.flatMap f = l.flatMap g
  | [], _ => rfl
  | a :: l, h => by rw [List.flatMap_cons, List.flatMap_cons, h a (by simp), flatMap_eq l (fun b hb => h b (by simp [hb]))]
theorem RightI.print_eq {x : Img} (h : RightI x) : printT pairsU x = printT pairsT x := by
  unfold printT
  rw [flatMap_eq (f := taskT pairsU) (g := taskT pairsT) x.tasks (fun t ht => by
    unfold taskT
    rw [pairsU_eq [58] t.lon 0 (fun n hn => ((h.taskIn ht).2.2.2 n hn).1)]), flatMap_eq (f := edgeT pairsU) (g := edgeT pairsT) x.edges (fun e he => by
    unfold edgeT
    rw [pairsU_eq [62] e.mp 0 (fun n hn => ((h.pairsIn he).1 n hn).1), pairsU_eq [58] e.offs 0 (fun n hn => ((h.pairsIn he).2 n hn).1)])]

set_option maxRecDepth 100000 in
theorem right10_any (v : ImgV) (x : Img) (w : World) (h : ImgAt w v x) :
    Calls Try.prog 19 #[.agg (imgCells v x).toArray] w fun e w' => e = .returned (.bool ((chkImg x).2 == 0)) ∧ Keep [] w w' := by
  have HC := fun W hk => Lib.hid (rcheck_any v x W (h.keep0 hk))
  have hb := img_box w v x
  have K0 := (Keep.refl [] w).alloc (.cells (imgCells v x).toArray 26)
  have HIL : Hid ((imgCells v x).length = 4) := show _ = _ from rfl
  have qI := Lib.hid hb.cellsAt
  clear h hb
  generalize chkImg x = r at *
  generalize imgCells v x = il at *
  go_enter Try.func19, Try.ntmps19
  go_wp2_with (refine wpList_load_agg rfl 26 (.tmp 1) rfl rfl (cs := il) (by rw [HIL.out]; exact agg_image) qI.out ?_)
  refine (HC _ K0).out.mono ?_
  rintro e w5 ⟨rfl, k5⟩
  rw [chkRes]
  go_wp2
  go_ret
  exact ⟨rfl, K0.then k5⟩
end Go.Proofs.Ytoepkhkaifgddaa
