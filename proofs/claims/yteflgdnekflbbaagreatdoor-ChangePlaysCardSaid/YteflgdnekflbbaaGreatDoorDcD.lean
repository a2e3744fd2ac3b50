/- The document's engine in memory; the end of a change without another mode asked for; walked. No condition. The document's end of a change without another mode asked for; walked. No condition. The document's coming of a mode; walked. Condition: what over does then. The document's beginning of a change; walked. Condition: what come does then. -/
import Derived.Test.YteflgdnekflbbaaGreatDoorEng
import Derived.Test.YteflgdnekflbbaaGreatDoorFldRun
import Derived.Test.YteflgdnekflbbaaGreatDoorRangeB
namespace Go.Proofs.YteflgdnekflbbaaGreatDoor
open Go.RowKit
attribute [local go_sem] Oper.semAt_some

/-- Where the document's engine keeps its image and spans. -/
structure DcV where
  v : ImgV
  la : Option Addr
  lc : Nat
  sa : Option Addr
  sc : Nat
def dcL (V : DcV) (X : ChX) (d : DcS) : List Value :=
  [.int .i64 X.x.res, .slice V.v.ta X.x.tasks.length V.v.tc, .slice V.v.ma X.x.modes.length V.v.mc, .slice V.v.ea X.x.edges.length V.v.ec, .slice V.la X.lat.length V.lc, .slice V.sa X.stl.length V.sc,
   .int .i64 (d.mode : Int), .int .i64 (optI d.edge), .int .i64 (d.ph : Int), .int .i64 (d.now : Int), .int .i64 (d.since : Int), .int .i64 (d.due : Int), .int .i64 (optI d.held)]
theorem dcL_len (V : DcV) (X : ChX) (d : DcS) : (dcL V X d).length = 13 := rfl
theorem dcL_one (V : DcV) (X : ChX) (d : DcS) : ∀ u ∈ dcL V X d, u.oneCell' = true := fun u hu => by
  simp only [dcL, List.mem_cons, List.not_mem_nil, or_false] at hu
  rcases hu with rfl | rfl | rfl | rfl | rfl | rfl | rfl | rfl | rfl | rfl | rfl | rfl | rfl <;> rfl
def zE30 : List Value := [.int .i64 0, .slice none 0 0, .slice none 0 0, .slice none 0 0, .slice none 0 0, .slice none 0 0, .int .i64 0, .int .i64 0, .int .i64 0, .int .i64 0, .int .i64 0, .int .i64 0, .int .i64 0]
theorem agg_E30 : AggOf Tryz.prog 31 13 := ⟨by kernel_rfl, by kernel_rfl⟩
theorem agg_N30 : AggOf Tryz.prog 86 4 := ⟨by kernel_rfl, by kernel_rfl⟩
theorem slice_N30 : SliceOf Tryz.prog 39 86 4 32 := ⟨Tryz.underlying39, by kernel_rfl, by decide⟩
def dnCells (n : Nw) : List Value := [.int .i64 (n.kind : Int), .int .i64 (n.edge : Int), .int .i64 (n.mode : Int), .int .i64 (n.ticks : Int)]
def dnV (L : List Nw) : List Value := L.flatMap dnCells
theorem dn_one (n : Nw) : ∀ u ∈ dnCells n, u.oneCell' = true := fun u hu => by
  simp only [dnCells, List.mem_cons, List.not_mem_nil, or_false] at hu
  rcases hu with rfl | rfl | rfl | rfl <;> rfl
set_option maxRecDepth 100000 in
theorem build_dn (a e m t : Int) (w : World) : (Instr.build 86 #[(0, .int .i64 a), (1, .int .i64 e), (2, .int .i64 m), (3, .int .i64 t)]).run Tryz.prog w = .ok (.agg #[.int .i64 a, .int .i64 e, .int .i64 m, .int .i64 t]) w := by kernel_rfl
structure DcX (W0 : World) (V : DcV) (X : ChX) : Prop where
  img : ∀ w', Keep [] W0 w' → ImgAt w' V.v X.x
  lat : ∀ w', Keep [] W0 w' → Reads w' 1 V.la X.lat.length (natI X.lat)
  stl : ∀ w', Keep [] W0 w' → Reads w' 1 V.sa X.stl.length (natI X.stl)
  ll : X.lat.length = X.x.edges.length
  sl : X.stl.length = X.x.edges.length
def RetD (W0 w : World) (F : List Nat) (V : DcV) (X : ChX) (n : Nat) (xs : List Value) (r : DcS × List Nw) (e : Ending) (w' : World) : Prop :=
  ∃ A p, e = .returned (.tuple #[.agg (dcL V X r.1).toArray, .slice A (n + r.2.length) p]) ∧ w'.ownsRow W0.heap.size 86 4 (.slice A (n + r.2.length) p) (n + r.2.length) (xs ++ dnV r.2) ∧ Keep [] W0 w' ∧ Keep F w w' ∧ (∀ y ∈ (Value.slice A (n + r.2.length) p).ownBlock.toList, y ∈ F ∨ w.heap.size ≤ y)
section
variable {w : World} {g : Nat} {V : DcV} {X : ChX} {d : DcS}
theorem dc_cells (h : Blk w g 31 (dcL V X d).toArray) :
    (w.cell? ⟨g, 2, none⟩ = some (.slice V.v.ma X.x.modes.length V.v.mc) ∧ w.cell? ⟨g, 3, none⟩ = some (.slice V.v.ea X.x.edges.length V.v.ec) ∧ w.cell? ⟨g, 4, none⟩ = some (.slice V.la X.lat.length V.lc) ∧ w.cell? ⟨g, 5, none⟩ = some (.slice V.sa X.stl.length V.sc)) ∧
    (w.cell? ⟨g, 6, none⟩ = some (.int .i64 (d.mode : Int)) ∧ w.cell? ⟨g, 7, none⟩ = some (.int .i64 (optI d.edge)) ∧ w.cell? ⟨g, 8, none⟩ = some (.int .i64 (d.ph : Int)) ∧ w.cell? ⟨g, 9, none⟩ = some (.int .i64 (d.now : Int))) ∧
    w.cell? ⟨g, 10, none⟩ = some (.int .i64 (d.since : Int)) ∧ w.cell? ⟨g, 11, none⟩ = some (.int .i64 (d.due : Int)) ∧ w.cell? ⟨g, 12, none⟩ = some (.int .i64 (optI d.held)) := by
  refine ⟨⟨?_, ?_, ?_, ?_⟩, ⟨?_, ?_, ?_, ?_⟩, ?_, ?_, ?_⟩ <;> (rw [h.cell]; rfl)
theorem dc_img (h : Blk w g 31 (dcL V X d).toArray) : CellsAt w g 0 (imgCells V.v X.x) := fun j u hu => by
  rw [h.cell, Nat.zero_add]
  match j with
  | 0 => exact hu
  | 1 => exact hu
  | 2 => exact hu
  | 3 => exact hu
  | j + 4 => simp [imgCells] at hu
theorem dc_put {d' : DcS} (h : Blk w g 31 (dcL V X d).toArray) (i : Nat) (u : Value) (hc : (dcL V X d).toArray.setIfInBounds i u = (dcL V X d').toArray) : Blk (w.setCell ⟨g, i, none⟩ u) g 31 (dcL V X d').toArray := by
  have := h.set_ i u
  rw [hc] at this
  exact this
end
theorem own_dn1 {w : World} {B g : Nat} (n : Nw) (h : Blk w g 86 (dnCells n).toArray) (hB : B ≤ g) : w.ownsRow B 86 4 (.slice (some ⟨g, 0, none⟩) 1 1) 1 (dnCells n) :=
  ⟨rfl, .inr ⟨g, 1, _, rfl, hB, h, Nat.le_refl _, by decide, rfl, rfl⟩⟩
theorem dnV_one (L : List Nw) : ∀ u ∈ dnV L, u.oneCell' = true := fun u hu => by
  obtain ⟨n, _, hn⟩ := List.mem_flatMap.1 hu
  exact dn_one n u hn
/-- Two results, the first one in cells. -/
theorem results_blk_tmpD {P : Program} {w : World} {fn : Func} {p q : Tmp} {ty : TypeId} (h : fn.results = #[.cell p ty, .tmp q]) (tmps : Array Value) {g t : Nat} {vs : List Value} {v : Value} (hp : tmps.getD p undef = .pointer (some ⟨g, 0, none⟩)) (hq : tmps.getD q undef = v)
    (hb : Blk w g t vs.toArray) (hA : AggOf P ty vs.length) : (results fn tmps).run P w = .ok (.tuple #[.agg vs.toArray, v]) w := by
  have hp' : tmps[p]?.getD undef = .pointer (some ⟨g, 0, none⟩) := by simpa using hp
  have hq' : tmps[q]?.getD undef = v := by simpa using hq
  have hc : CellsAt w g 0 vs := fun j u hu => by rw [Nat.zero_add, hb.cell]; simpa using hu
  simp [results, h, hp', hq', asAddr, run_loadVar_agg hA hc]
/-- What stands in a function: its engine in a box, a place for the answer, and the row; F: the blocks of the row that it was handed. -/
structure DcI (W0 w : World) (F : List Nat) (W : World) (V : DcV) (X : ChX) (d : DcS) (g g2 : Nat) (A : Option Addr) (n p : Nat) (xs : List Value) : Prop where
  e : Blk W g 31 (dcL V X d).toArray
  o : ∃ cs, Blk W g2 31 cs ∧ cs.size = 13
  r : W.ownsRow W0.heap.size 86 4 (.slice A n p) n xs
  ne : g ≠ g2
  le : w.heap.size ≤ g ∧ w.heap.size ≤ g2
  w0 : W0.heap.size ≤ w.heap.size
  k : Keep [] W0 W
  kf : Keep F w W
  rb : ∀ y ∈ (Value.slice A n p).ownBlock.toList, y ∈ F ∨ w.heap.size ≤ y
section
variable {W0 w W W' : World} {F : List Nat} {V : DcV} {X : ChX} {d d' : DcS} {g g2 : Nat} {A : Option Addr} {n p : Nat} {xs : List Value}
theorem DcI.keep0 (h : DcI W0 w F W V X d g g2 A n p xs) (k : Keep [] W W') : DcI W0 w F W' V X d g g2 A n p xs := by
  obtain ⟨cs, ho, hs⟩ := h.o
  exact ⟨h.e.keep0 k, ⟨cs, ho.keep0 k, hs⟩, own_keep0 h.r k, h.ne, h.le, h.w0, h.k.then k, h.kf.then k, h.rb⟩
theorem DcI.put (h : DcI W0 w F W V X d g g2 A n p xs) (i : Nat) (u : Value) (hc : (dcL V X d).toArray.setIfInBounds i u = (dcL V X d').toArray) : DcI W0 w F (W.setCell ⟨g, i, none⟩ u) V X d' g g2 A n p xs := by
  obtain ⟨cs, ho, hs⟩ := h.o
  have k := keep_set W g i u
  have h2 := h.le
  have h3 := h.w0
  exact ⟨dc_put h.e i u hc, ⟨cs, ho.keep k (by simp; exact fun e => h.ne e.symm), hs⟩, own_keep h.r k (fun y hy hm => by simp at hm; subst hm; exact unown_ne h.r h.e (by decide) hy), h.ne, h.le, h.w0, h.k.trans k (fun y hy hlt => by simp at hy; omega), h.kf.trans k (fun y hy hlt => by simp at hy; omega), h.rb⟩
theorem DcI.app (h : DcI W0 w F W V X d g g2 A n p xs) {A' : Option Addr} {n' p' : Nat} {xs' : List Value} (o : W'.ownsRow W0.heap.size 86 4 (.slice A' n' p') n' xs') (k : Keep (Value.slice A n p).ownBlock.toList W W')
    (hb : ∀ y ∈ (Value.slice A' n' p').ownBlock.toList, y ∈ (Value.slice A n p).ownBlock.toList ∨ W.heap.size ≤ y) : DcI W0 w F W' V X d g g2 A' n' p' xs' := by
  obtain ⟨cs, ho, hs⟩ := h.o
  have hbs : ∀ y ∈ (Value.slice A n p).ownBlock.toList, W0.heap.size ≤ y := row_baseT h.r
  have hz := h.kf.size
  refine ⟨h.e.keep k (fun hm => unown_ne h.r h.e (by decide) (by simpa using hm)), ⟨cs, ho.keep k (fun hm => unown_ne h.r ho (by decide) (by simpa using hm)), hs⟩, o, h.ne, h.le, h.w0, h.k.trans k (fun y hy hlt => by have := hbs y hy; omega), h.kf.trans k (fun y hy hlt => ?_), fun y hy => ?_⟩
  · rcases h.rb y hy with h1 | h1
    · exact h1
    · omega
  · rcases hb y hy with h1 | h1
    · exact h.rb y h1
    · exact .inr (by omega)
/-- The start. -/
theorem DcI.start (K : Keep [] W0 w) (hr : w.ownsRow W0.heap.size 86 4 (.slice A n p) n xs) :
    DcI W0 w (Value.slice A n p).ownBlock.toList ((w.alloc (.cells (dcL V X d).toArray 31)).alloc (.cells zE30.toArray 31)) V X d w.heap.size (w.heap.size + 1) A n p xs := by
  have k : Keep [] w ((w.alloc (.cells (dcL V X d).toArray 31)).alloc (.cells zE30.toArray 31)) := ((Keep.refl _ w).alloc _).alloc _
  exact ⟨(Blk.new _ _ _).alloc _, ⟨_, Blk.new1 _ _ _ _, rfl⟩, own_keep0 hr k, by omega, by omega, K.size, K.then k, k.mono (by simp), fun y hy => .inl hy⟩
/-- The end: the engine is laid into the answer. -/
theorem DcI.done (h : DcI W0 w F W V X d g g2 A n p xs) (k : Keep [g2] W W') : W'.ownsRow W0.heap.size 86 4 (.slice A n p) n xs ∧ Keep [] W0 W' ∧ Keep F w W' ∧ (∀ y ∈ (Value.slice A n p).ownBlock.toList, y ∈ F ∨ w.heap.size ≤ y) := by
  obtain ⟨cs, ho, hs⟩ := h.o
  have h2 := h.le
  have h3 := h.w0
  exact ⟨own_keep h.r k (fun y hy hm => by simp at hm; subst hm; exact unown_ne h.r ho (by decide) hy), h.k.trans k (fun y hy hlt => by simp at hy; omega), h.kf.trans k (fun y hy hlt => by simp at hy; omega), h.rb⟩
theorem app_rb {v v' : Value} {W : World} (h : v'.ownBlock = v.ownBlock ∨ v'.ownBlock = some W.heap.size) : ∀ y ∈ v'.ownBlock.toList, y ∈ v.ownBlock.toList ∨ W.heap.size ≤ y := fun y hy => by
  rcases h with e | e
  · rw [e] at hy; exact .inl hy
  · rw [e] at hy; simp at hy; exact .inr (by omega)
/-- A call's answer, laid behind what was there ahead. -/
theorem RetD.step {r : DcS × List Nw} {nw : Nw} {n : Nat} {xs : List Value} {e : Ending} {w0 w1 w2 : World} {F F1 : List Nat} (h : RetD w0 w1 F1 V X (n + 1) (xs ++ dnCells nw) r e w2) (hk : Keep F w w1) (hF : ∀ y ∈ F1, y ∈ F ∨ w.heap.size ≤ y) : RetD w0 w F V X n xs (r.1, nw :: r.2) e w2 := by
  obtain ⟨A, p, h1, h2, h3, h4, h5⟩ := h
  have hl : n + 1 + r.2.length = n + (nw :: r.2).length := by rw [List.length_cons]; omega
  rw [hl] at h1 h2 h5
  have hz := hk.size
  refine ⟨A, p, h1, ?_, h3, hk.trans h4 (fun y hy hlt => ?_), fun y hy => ?_⟩
  · rw [show dnV (nw :: r.2) = dnCells nw ++ dnV r.2 from rfl, ← List.append_assoc]; exact h2
  · rcases hF y hy with h | h
    · exact h
    · omega
  · rcases h5 y hy with h | h
    · exact hF y h
    · exact .inr (by omega)
end
end Go.Proofs.YteflgdnekflbbaaGreatDoor

namespace Go.Proofs.YteflgdnekflbbaaGreatDoor
open Go.RowKit
attribute [local go_sem] Oper.semAt_some

section
variable {W0 w : World} {V : DcV} {X : ChX} {d : DcS} {A : Option Addr} {n p : Nat} {xs : List Value}
set_option maxRecDepth 100000 in
theorem dover0_any (K : Keep [] W0 w) (hr : w.ownsRow W0.heap.size 86 4 (.slice A n p) n xs) (hn : n ≤ 1000) {k : Nat} (he : d.edge = some k) (hh : d.held = none) (live : Bool) :
    Calls Tryz.prog 35 #[.agg (dcL V X d).toArray, .bool live, .slice A n p] w (RetD W0 w (Value.slice A n p).ownBlock.toList V X n xs (overD0 d)) := by
  obtain ⟨W1, hW1⟩ : ∃ W1, (w.alloc (.cells (dcL V X d).toArray 31)).alloc (.cells #[.int .i64 0, .slice none 0 0, .slice none 0 0, .slice none 0 0, .slice none 0 0, .slice none 0 0, .int .i64 0, .int .i64 0, .int .i64 0, .int .i64 0, .int .i64 0, .int .i64 0, .int .i64 0] 31) = W1 := ⟨_, rfl⟩
  have I1 : DcI W0 w (Value.slice A n p).ownBlock.toList W1 V X d w.heap.size (w.heap.size + 1) A n p xs := by rw [← hW1]; exact DcI.start K hr
  obtain ⟨_, ⟨c6, c7, _, _⟩, _, _, _⟩ := dc_cells I1.e
  rw [he] at c7
  replace c7 : W1.cell? ⟨w.heap.size, 7, none⟩ = some (.int .i64 (k : Int)) := c7
  have HW := Lib.hid hW1
  have HI := Lib.hid I1
  have hbd := fun W => build_dn 3 (k : Int) (d.mode : Int) 0 W
  have HN : Hid ((overD0 d).2 = [⟨3, k, d.mode, 0⟩]) := by show _ = _; unfold overD0; rw [he]; rfl
  have HV : Hid (dnCells ⟨3, k, d.mode, 0⟩ = [.int .i64 3, .int .i64 (k : Int), .int .i64 (d.mode : Int), .int .i64 0]) := show _ = _ from rfl
  have HD : Hid ((overD0 d).1 = { d with ph := 0, edge := none }) := show _ = _ from rfl
  clear hW1 I1 hr
  go_enter Tryz.func35, Tryz.ntmps35
  go_wp2_with (first | rw [HW.out] | (refine stop_at 15 rfl ?_))
  constructor
  refine wpList_runsC rfl (exec_slice_oneC slice_N30 (cs := dnCells ⟨3, k, d.mode, 0⟩) rfl (by decide) (congrArg (fun l => Value.agg (List.toArray l)) HV.out.symm) _) ?_
  have I4 := HI.out.keep0 ((Keep.refl [] W1).alloc (.cells (dnCells ⟨3, k, d.mode, 0⟩).toArray 86))
  have B4 := Blk.new W1 86 (dnCells ⟨3, k, d.mode, 0⟩).toArray
  have hsz : W0.heap.size ≤ (W1.alloc (.cells (dnCells ⟨3, k, d.mode, 0⟩).toArray 86)).heap.size := I4.k.size
  generalize W1.alloc (.cells (dnCells ⟨3, k, d.mode, 0⟩).toArray 86) = w4 at *
  refine wpList_append_reads rfl (.tmp 9) (.tmp 15) 39 rfl slice_N30 I4.r rfl (Reads.of_own (own_dn1 (B := 0) _ B4 (Nat.zero_le _))) rfl (dn_one _) hsz (by omega) (by unfold maxLen; omega) ?_
  intro v' w5 o5 k5 hb5
  obtain ⟨A5, p5, rfl⟩ := own_shape o5
  have I5 := I4.app o5 k5 (app_rb hb5)
  have I7 := (I5.put 8 (.int .i64 0) (d' := { d with ph := 0 }) rfl).put 7 (.int .i64 (-1)) (d' := { d with ph := 0, edge := none }) rfl
  obtain ⟨_, ⟨_, d7, d8, _⟩, _, _, _⟩ := dc_cells I5.e
  have e7 := I5.e.frozen 7
  have e8 := I5.e.frozen 8
  obtain ⟨_, _, _, _, c12⟩ := dc_cells I7.e
  rw [show ({ d with ph := 0, edge := none } : DcS).held = d.held from rfl, hh] at c12
  replace c12 : ((w5.setCell ⟨w.heap.size, 8, none⟩ (.int .i64 0)).setCell ⟨w.heap.size, 7, none⟩ (.int .i64 (-1))).cell? ⟨w.heap.size, 12, none⟩ = some (.int .i64 (-1)) := c12
  have HI7 := Lib.hid I7
  have HCA := Lib.hid I7.e.cellsAt
  clear I4 B4 hsz o5 k5 hb5 I5 I7 HI c6 c7 hbd hh he
  go_upto_region 5 with fail
  clear c12 d7 d8 e7 e8
  generalize (w5.setCell ⟨w.heap.size, 8, none⟩ (.int .i64 0)).setCell ⟨w.heap.size, 7, none⟩ (.int .i64 (-1)) = w7 at *
  obtain ⟨cs, ho, hs⟩ := HI7.out.o
  go_wp2_with (first
    | (refine wpList_load_agg rfl 31 (.tmp 3) rfl rfl (cs := dcL V X { d with ph := 0, edge := none }) agg_E30 HCA.out ?_)
    | (refine stop_store 31 (.tmp 6) (.tmp 22) rfl ?_))
  constructor
  refine wpList_store_all rfl 31 (.tmp 6) (.tmp 22) rfl rfl rfl (vs := dcL V X { d with ph := 0, edge := none }) agg_E30.2 ho (dcL_one _ _ _) hs.symm ?_
  intro w8 d8 k8
  obtain ⟨o8, K8, K9, rb8⟩ := HI7.out.done k8
  go_wp2
  refine bodyPost_ret (results_blk_tmpD rfl _ rfl rfl d8 agg_E30) rfl ?_
  refine ⟨A5, p5, ?_, ?_, K8, K9, ?_⟩
  · rw [HN.out, HD.out]; rfl
  · rw [HN.out]; exact o8
  · rw [HN.out]; exact rb8
end
end Go.Proofs.YteflgdnekflbbaaGreatDoor

namespace Go.Proofs.YteflgdnekflbbaaGreatDoor
open Go.RowKit
attribute [local go_sem] Oper.semAt_some

theorem DcX.edge {W0 : World} {V : DcV} {X : ChX} (h : DcX W0 V X) {k : Nat} (hk : k < X.x.edges.length) : ∃ bb o, V.v.ea = some ⟨bb, o, none⟩ ∧ ∀ w', Keep [] W0 w' → CellsAt w' bb (o + k * 23) (edgCells (edg X.x k)) := by
  obtain ⟨bb, o, hA, hb, hc⟩ := (h.img W0 (Keep.refl _ _)).edge (by omega)
  refine ⟨bb, o, hA, fun w' kk => ?_⟩
  have e : edg X.x k = X.x.edges[k] := by unfold edg; rw [List.getElem?_eq_getElem hk]; rfl
  rw [e]
  exact (hc k hk).keep0 kk hb
theorem row_nat {W0 : World} {A : Option Addr} {l : List Nat} (h : ∀ w', Keep [] W0 w' → Reads w' 1 A l.length (natI l)) {k : Nat} (hk : k < l.length) : ∃ bb o, A = some ⟨bb, o, none⟩ ∧ ∀ w', Keep [] W0 w' → w'.cell? ⟨bb, o + k, none⟩ = some (.int .i64 (l.getD k 0 : Int)) := by
  obtain ⟨bb, o, u, hA, hb, hu, hc⟩ := (h W0 (Keep.refl _ _)).at_ hk
  refine ⟨bb, o, hA, fun w' kk => ?_⟩
  have e : u = .int .i64 (l.getD k 0 : Int) := by
    unfold natI at hu
    rw [List.getElem?_map, List.getElem?_eq_getElem hk] at hu
    rw [List.getD_eq_getElem?_getD, List.getElem?_eq_getElem hk]
    exact (Option.some.inj hu).symm
  rw [← e]
  exact (kk.cell (p := ⟨bb, o + k, none⟩) hb (by simp)).trans hc
section
variable {W0 w : World} {V : DcV} {X : ChX} {d : DcS} {A : Option Addr} {n p : Nat} {xs : List Value}
set_option maxRecDepth 100000 in
set_option maxHeartbeats 2000000 in
theorem dcome_any (hX : DcX W0 V X) (K : Keep [] W0 w) (hr : w.ownsRow W0.heap.size 86 4 (.slice A n p) n xs) (N : Nat) (hN : N ≤ 999) (hn : n ≤ N) {k : Nat} (he : d.edge = some k) (hk : k < X.x.edges.length) (hto : (edg X.x k).to = (eTo X.x k : Int)) (hst : X.st k ≤ 65536) (hpast : d.since ≤ d.now) (hnow : d.now < 4611686018427387904) (live : Bool)
    (ov : DcS → DcS × List Nw)
    (hov : ∀ w1 A1 n1 p1 xs1, Keep [] W0 w1 → w1.ownsRow W0.heap.size 86 4 (.slice A1 n1 p1) n1 xs1 → n1 ≤ N + 1 → Calls Tryz.prog 35 #[.agg (dcL V X { d with mode := eTo X.x k, ph := 4, due := d.now + X.st k }).toArray, .bool live, .slice A1 n1 p1] w1 (RetD W0 w1 (Value.slice A1 n1 p1).ownBlock.toList V X n1 xs1 (ov { d with mode := eTo X.x k, ph := 4, due := d.now + X.st k }))) :
    Calls Tryz.prog 36 #[.agg (dcL V X d).toArray, .bool live, .slice A n p] w (RetD W0 w (Value.slice A n p).ownBlock.toList V X n xs (comeDW X ov d)) := by
  obtain ⟨W1, hW1⟩ : ∃ W1, (w.alloc (.cells (dcL V X d).toArray 31)).alloc (.cells #[.int .i64 0, .slice none 0 0, .slice none 0 0, .slice none 0 0, .slice none 0 0, .slice none 0 0, .int .i64 0, .int .i64 0, .int .i64 0, .int .i64 0, .int .i64 0, .int .i64 0, .int .i64 0] 31) = W1 := ⟨_, rfl⟩
  have I1 : DcI W0 w (Value.slice A n p).ownBlock.toList W1 V X d w.heap.size (w.heap.size + 1) A n p xs := by rw [← hW1]; exact DcI.start K hr
  obtain ⟨eb, eo, hA, hc⟩ := hX.edge hk
  obtain ⟨sb, so, hSA, hsc⟩ := row_nat hX.stl (k := k) (by rw [hX.sl]; exact hk)
  have hl := (hX.img W0 (Keep.refl _ _)).le
  unfold maxLen at hl
  obtain ⟨⟨_, c3, _, _⟩, ⟨c6, c7, _, _⟩, _, _, _⟩ := dc_cells I1.e
  rw [he] at c7
  replace c7 : W1.cell? ⟨w.heap.size, 7, none⟩ = some (.int .i64 (k : Int)) := c7
  rw [hA] at c3
  have ce : W1.cell? ⟨eb, eo + k * 23 + 1, none⟩ = some (.int .i64 (eTo X.x k : Int)) := by rw [← hto]; exact hc W1 I1.k 1 _ rfl
  have f6 := I1.e.frozen 6
  have p0 : (0 : Int) ≤ (k : Int) := by omega
  have p1 : (k : Int) < (X.x.edges.length : Int) := by omega
  have HSL : Hid (X.stl.length = X.x.edges.length) := hX.sl
  have I2 := I1.put 6 (.int .i64 (eTo X.x k : Int)) (d' := { d with mode := eTo X.x k }) rfl
  have HW := Lib.hid hW1
  have HI2 := Lib.hid I2
  have HOV := Lib.hid hov
  have hwr : IntKind.i64.wrap ((d.now : Int) - (d.since : Int)) = ((d.now - d.since : Nat) : Int) := by rw [IntWalk.i64_in _ (by omega)]; omega
  have HV : Hid (dnCells ⟨2, k, eTo X.x k, d.now - d.since⟩ = [.int .i64 2, .int .i64 (k : Int), .int .i64 (eTo X.x k : Int), .int .i64 ((d.now - d.since : Nat) : Int)]) := show _ = _ from rfl
  have HE := Lib.hid he
  clear hW1 I1 I2 hr hov he
  go_enter Tryz.func36, Tryz.ntmps36
  go_upto_region 2 with (rw [HW.out])
  clear c3 c6 c7 ce f6
  generalize W1.setCell ⟨w.heap.size, 6, none⟩ (.int .i64 (eTo X.x k : Int)) = w2 at *
  obtain ⟨⟨_, c3, _, c5⟩, ⟨c6, c7, c8, c9⟩, c10, _, _⟩ := dc_cells HI2.out.e
  dsimp only at c6 c7 c8 c9 c10
  rw [HE.out] at c7
  replace c7 : w2.cell? ⟨w.heap.size, 7, none⟩ = some (.int .i64 (k : Int)) := c7
  have hbd := fun W => build_dn 2 (k : Int) (eTo X.x k : Int) ((d.now - d.since : Nat) : Int) W
  generalize hdn : ((d.now - d.since : Nat) : Int) = dn at *
  go_wp2_with (refine stop_at 28 rfl ?_)
  constructor
  refine wpList_runsC rfl (exec_slice_oneC slice_N30 (cs := dnCells ⟨2, k, eTo X.x k, d.now - d.since⟩) rfl (by decide) (congrArg (fun l => Value.agg (List.toArray l)) HV.out.symm) _) ?_
  have I4 := HI2.out.keep0 ((Keep.refl [] w2).alloc (.cells (dnCells ⟨2, k, eTo X.x k, d.now - d.since⟩).toArray 86))
  have B4 := Blk.new w2 86 (dnCells ⟨2, k, eTo X.x k, d.now - d.since⟩).toArray
  have hsz : W0.heap.size ≤ (w2.alloc (.cells (dnCells ⟨2, k, eTo X.x k, d.now - d.since⟩).toArray 86)).heap.size := I4.k.size
  generalize w2.alloc (.cells (dnCells ⟨2, k, eTo X.x k, d.now - d.since⟩).toArray 86) = w4 at *
  refine wpList_append_reads rfl (.tmp 17) (.tmp 28) 39 rfl slice_N30 I4.r rfl (Reads.of_own (own_dn1 (B := 0) _ B4 (Nat.zero_le _))) rfl (dn_one _) hsz (by omega) (by unfold maxLen; omega) ?_
  intro v' w5 o5 k5 hb5
  obtain ⟨A5, p5, rfl⟩ := own_shape o5
  have I5 := I4.app o5 k5 (app_rb hb5)
  have d8 := I5.e.cell 8
  have e8 := I5.e.frozen 8
  have I6 := I5.put 8 (.int .i64 4) (d' := { d with mode := eTo X.x k, ph := 4 }) rfl
  obtain ⟨_, ⟨_, _, d8, _⟩, _, _, _⟩ := dc_cells I5.e
  have HI6 := Lib.hid I6
  clear I4 B4 hsz o5 k5 hb5 I5 I6 HI2 c3 c5 c6 c7 c8 c9 c10 hbd hwr
  go_upto_region 4 with fail
  clear d8 e8
  generalize w5.setCell ⟨w.heap.size, 8, none⟩ (.int .i64 4) = w6 at *
  have hF : ∀ w', Keep [] w6 w' → w'.cell? ⟨w.heap.size, 9, none⟩ = some (.int .i64 (d.now : Int)) ∧ w'.cell? ⟨w.heap.size, 5, none⟩ = some (.slice (some ⟨sb, so, none⟩) X.stl.length V.sc) ∧ w'.cell? ⟨w.heap.size, 7, none⟩ = some (.int .i64 (k : Int)) ∧ w'.cell? ⟨sb, so + k, none⟩ = some (.int .i64 (X.st k : Int)) := fun w' kk => by
    have I := HI6.out.keep0 kk
    obtain ⟨⟨_, _, _, c5⟩, ⟨_, c7, _, c9⟩, _, _, _⟩ := dc_cells I.e
    refine ⟨c9, by rw [c5, hSA], ?_, hsc w' I.k⟩
    rw [c7]
    show some (Value.int .i64 (optI d.edge)) = _
    rw [HE.out]; rfl
  have p2 : (k : Int) < (X.stl.length : Int) := by rw [HSL.out]; exact p1
  obtain ⟨du, hdu⟩ : ∃ du, d.now + X.st k = du := ⟨_, rfl⟩
  have hws : IntKind.i64.wrap ((d.now : Int) + (X.st k : Int)) = (du : Int) := by rw [IntWalk.i64_in _ (by omega)]; omega
  refine ap_begin 10 (Keep [] w6) rfl (Keep.refl _ _).drew (fun hS hPan => ?_) (fun _ _ d _ _ h => by cases d <;> exact h)
  (refine ap_val (v := ?_) 0 rfl (by kernel_rfl) (by kernel_rfl) (by kernel_rfl) (by kernel_rfl) (by rfl) hPan ?_ hS ?_; rotate_left; (intro w' hSw; obtain ⟨f1,f2,f3,f4⟩ := hF w' hSw; go_simp; try with_reducible rfl); simp only [Act.put, List.setIfInBounds_toArray, List.set_cons_zero, List.set_cons_succ])
  (refine ap_val (v := ?_) 1 rfl (by kernel_rfl) (by kernel_rfl) (by kernel_rfl) (by kernel_rfl) (by rfl) hPan ?_ hS ?_; rotate_left; (intro w' hSw; obtain ⟨f1,f2,f3,f4⟩ := hF w' hSw; go_simp; try with_reducible rfl); simp only [Act.put, List.setIfInBounds_toArray, List.set_cons_zero, List.set_cons_succ])
  (refine ap_val (v := ?_) 2 rfl (by kernel_rfl) (by kernel_rfl) (by kernel_rfl) (by kernel_rfl) (by rfl) hPan ?_ hS ?_; rotate_left; (intro w' hSw; obtain ⟨f1,f2,f3,f4⟩ := hF w' hSw; go_simp; try with_reducible rfl); simp only [Act.put, List.setIfInBounds_toArray, List.set_cons_zero, List.set_cons_succ])
  (refine ap_val (v := ?_) 3 rfl (by kernel_rfl) (by kernel_rfl) (by kernel_rfl) (by kernel_rfl) (by rfl) hPan ?_ hS ?_; rotate_left; (intro w' hSw; obtain ⟨f1,f2,f3,f4⟩ := hF w' hSw; go_simp; try with_reducible rfl); simp only [Act.put, List.setIfInBounds_toArray, List.set_cons_zero, List.set_cons_succ])
  (refine ap_val (v := ?_) 4 rfl (by kernel_rfl) (by kernel_rfl) (by kernel_rfl) (by kernel_rfl) (by rfl) hPan ?_ hS ?_; rotate_left; (intro w' hSw; obtain ⟨f1,f2,f3,f4⟩ := hF w' hSw; go_simp; try with_reducible rfl); simp only [Act.put, List.setIfInBounds_toArray, List.set_cons_zero, List.set_cons_succ])
  (refine ap_val (v := ?_) 5 rfl (by kernel_rfl) (by kernel_rfl) (by kernel_rfl) (by kernel_rfl) (by rfl) hPan ?_ hS ?_; rotate_left; (intro w' hSw; obtain ⟨f1,f2,f3,f4⟩ := hF w' hSw; go_simp; try with_reducible rfl); simp only [Act.put, List.setIfInBounds_toArray, List.set_cons_zero, List.set_cons_succ])
  (refine ap_val (v := ?_) 6 rfl (by kernel_rfl) (by kernel_rfl) (by kernel_rfl) (by kernel_rfl) (by rfl) hPan ?_ hS ?_; rotate_left; (intro w' hSw; obtain ⟨f1,f2,f3,f4⟩ := hF w' hSw; go_simp; try with_reducible rfl); simp only [Act.put, List.setIfInBounds_toArray, List.set_cons_zero, List.set_cons_succ])
  (refine ap_val (v := ?_) 7 rfl (by kernel_rfl) (by kernel_rfl) (by kernel_rfl) (by kernel_rfl) (by rfl) hPan ?_ hS ?_; rotate_left; (intro w' hSw; obtain ⟨f1,f2,f3,f4⟩ := hF w' hSw; go_simp; try with_reducible rfl); simp only [Act.put, List.setIfInBounds_toArray, List.set_cons_zero, List.set_cons_succ])
  (refine ap_val (v := ?_) 8 rfl (by kernel_rfl) (by kernel_rfl) (by kernel_rfl) (by kernel_rfl) (by rfl) hPan ?_ hS ?_; rotate_left; (intro w' hSw; obtain ⟨f1,f2,f3,f4⟩ := hF w' hSw; go_simp; try with_reducible rfl); simp only [Act.put, List.setIfInBounds_toArray, List.set_cons_zero, List.set_cons_succ])
  (refine ap_val (v := ?_) 9 rfl (by kernel_rfl) (by kernel_rfl) (by kernel_rfl) (by kernel_rfl) (by rfl) hPan ?_ hS ?_; rotate_left; (intro w' hSw; go_simp; try with_reducible rfl); simp only [Act.put, List.setIfInBounds_toArray, List.set_cons_zero, List.set_cons_succ])
  have I7 := HI6.out.keep0 hS
  generalize w6.drew = w7 at *
  have c11 := (dc_cells I7.e).2.2.2.1
  have f11 := I7.e.frozen 11
  refine ap_one 10 (by kernel_rfl) ?_
  refine op_store1 (v := .int .i64 (du : Int)) 10 rfl (by rfl) rfl rfl rfl (by kernel_rfl) rfl rfl c11 f11 ?_
  have I8 := I7.put 11 (.int .i64 (du : Int)) (d' := { d with mode := eTo X.x k, ph := 4, due := du }) rfl
  refine ⟨fun hp => (by cases hp), ap_done (by kernel_rfl) ?_ _⟩
  (simp only [Act.put])
  have HI8 := Lib.hid I8
  clear hS hPan hF I7 c11 f11 hws I8
  generalize w7.setCell ⟨w.heap.size, 11, none⟩ (.int .i64 (du : Int)) = w8 at *
  obtain ⟨_, ⟨_, _, _, c9⟩, _, c11, _⟩ := dc_cells HI8.out.e
  dsimp only at c9 c11
  subst hdu
  have HCA := Lib.hid HI8.out.e.cellsAt
  have hgk : d.edge.getD 0 = k := by rw [HE.out]; rfl
  obtain ⟨cs, ho, hs⟩ := HI8.out.o
  by_cases hs0 : 0 < X.st k
  · have HC : Hid (comeDW X ov d = ({ d with mode := eTo X.x k, ph := 4, due := d.now + X.st k }, [⟨2, k, eTo X.x k, d.now - d.since⟩])) := by
      show _ = _
      unfold comeDW
      simp only [hgk]
      rw [if_pos hs0]
    obtain ⟨du, hdu⟩ : ∃ du, d.now + X.st k = du := ⟨_, rfl⟩
    rw [hdu] at c11 HI8 HCA HC
    have q1 : (d.now : Int) < (du : Int) := by omega
    clear hgk hdu hs0
    go_upto_region 6 with fail
    clear c9 c11
    go_wp2_with (first
      | (refine wpList_load_agg rfl 31 (.tmp 3) rfl rfl (cs := dcL V X { d with mode := eTo X.x k, ph := 4, due := du }) agg_E30 HCA.out ?_)
      | (refine stop_store 31 (.tmp 6) (.tmp 46) rfl ?_))
    constructor
    refine wpList_store_all rfl 31 (.tmp 6) (.tmp 46) rfl rfl rfl (vs := dcL V X { d with mode := eTo X.x k, ph := 4, due := du }) agg_E30.2 ho (dcL_one _ _ _) hs.symm ?_
    intro w9 d9 k9
    obtain ⟨o9, K9, L9, rb9⟩ := HI8.out.done k9
    go_wp2
    refine bodyPost_ret (results_blk_tmpD rfl _ rfl rfl d9 agg_E30) rfl ?_
    rw [HC.out]
    exact ⟨A5, p5, rfl, o9, K9, L9, rb9⟩
  · have hz : X.st k = 0 := by omega
    have hcl := HOV.out w8 A5 (n + 1) p5 _ HI8.out.k HI8.out.r (by omega)
    have HC : Hid (comeDW X ov d = ((ov { d with mode := eTo X.x k, ph := 4, due := d.now + X.st k }).1, ⟨2, k, eTo X.x k, d.now - d.since⟩ :: (ov { d with mode := eTo X.x k, ph := 4, due := d.now + X.st k }).2)) := by
      show _ = _
      unfold comeDW
      simp only [hgk]
      rw [if_neg hs0]
    obtain ⟨rn, hrn⟩ : ∃ rn, ov { d with mode := eTo X.x k, ph := 4, due := d.now + X.st k } = rn := ⟨_, rfl⟩
    rw [hrn] at hcl HC
    obtain ⟨du, hdu⟩ : ∃ du, d.now + X.st k = du := ⟨_, rfl⟩
    rw [hdu] at c11 HI8 HCA hcl
    have q1 : ¬ (d.now : Int) < (du : Int) := by omega
    have HCL := Lib.hid hcl
    clear hgk hdu hs0 hrn hcl HOV
    go_upto_region 7 with fail
    clear c9 c11
    go_wp2_with (first
      | (refine wpList_load_agg rfl 31 (.tmp 3) rfl rfl (cs := dcL V X { d with mode := eTo X.x k, ph := 4, due := du }) agg_E30 HCA.out ?_)
      | (go_at_call 35; refine HCL.out.mono ?_; rintro _ w9 ⟨A9, p9, rfl, o9, K9, L9, rb9⟩)
      | (refine stop_store 31 (.tmp 6) (.tmp 52) rfl ?_))
    constructor
    have I9 := HI8.out.app o9 L9 rb9
    obtain ⟨cs9, ho9, hs9⟩ := I9.o
    refine wpList_store_all rfl 31 (.tmp 6) (.tmp 52) rfl rfl rfl (vs := dcL V X rn.1) agg_E30.2 ho9 (dcL_one _ _ _) hs9.symm ?_
    intro w10 d10 k10
    obtain ⟨oo, KK, LL, rr⟩ := I9.done k10
    go_wp2
    refine bodyPost_ret (results_blk_tmpD rfl _ rfl rfl d10 agg_E30) rfl ?_
    rw [HC.out]
    have hl : n + 1 + rn.2.length = n + (⟨2, k, eTo X.x k, d.now - d.since⟩ :: rn.2 : List Nw).length := by rw [List.length_cons]; omega
    rw [hl] at oo rr ⊢
    refine ⟨A9, p9, rfl, ?_, KK, LL, rr⟩
    rw [show dnV (⟨2, k, eTo X.x k, d.now - d.since⟩ :: rn.2) = dnCells ⟨2, k, eTo X.x k, d.now - d.since⟩ ++ dnV rn.2 from rfl, ← List.append_assoc]
    exact oo
end
end Go.Proofs.YteflgdnekflbbaaGreatDoor

namespace Go.Proofs.YteflgdnekflbbaaGreatDoor
open Go.RowKit
attribute [local go_sem] Oper.semAt_some

section
variable {W0 w : World} {V : DcV} {X : ChX} {d : DcS} {A : Option Addr} {n p : Nat} {xs : List Value}
set_option maxRecDepth 100000 in
set_option maxHeartbeats 2000000 in
theorem dbegin_any (hX : DcX W0 V X) (K : Keep [] W0 w) (hr : w.ownsRow W0.heap.size 86 4 (.slice A n p) n xs) (N : Nat) (hN : N ≤ 998) (hn : n ≤ N) {k : Nat} (hk : k < X.x.edges.length) (hto : (edg X.x k).to = (eTo X.x k : Int)) (hpr : (edg X.x k).prot = (ePr X.x k : Int)) (hla : X.la k ≤ 65536) (hnow : d.now < 4611686018427387904) (live : Bool)
    (cm : DcS → DcS × List Nw)
    (hcm : ∀ w1 A1 n1 p1 xs1, Keep [] W0 w1 → w1.ownsRow W0.heap.size 86 4 (.slice A1 n1 p1) n1 xs1 → n1 ≤ N + 1 → Calls Tryz.prog 36 #[.agg (dcL V X { d with edge := some k, since := d.now, ph := ePr X.x k, due := d.now + X.la k }).toArray, .bool live, .slice A1 n1 p1] w1 (RetD W0 w1 (Value.slice A1 n1 p1).ownBlock.toList V X n1 xs1 (cm { d with edge := some k, since := d.now, ph := ePr X.x k, due := d.now + X.la k }))) (hcq : cm = comeD0 X) :
    Calls Tryz.prog 24 #[.agg (dcL V X d).toArray, .int .i64 (k : Int), .bool live, .slice A n p] w (RetD W0 w (Value.slice A n p).ownBlock.toList V X n xs (beginD X d k live)) := by
  obtain ⟨W1, hW1⟩ : ∃ W1, (w.alloc (.cells (dcL V X d).toArray 31)).alloc (.cells #[.int .i64 0, .slice none 0 0, .slice none 0 0, .slice none 0 0, .slice none 0 0, .slice none 0 0, .int .i64 0, .int .i64 0, .int .i64 0, .int .i64 0, .int .i64 0, .int .i64 0, .int .i64 0] 31) = W1 := ⟨_, rfl⟩
  have I1 : DcI W0 w (Value.slice A n p).ownBlock.toList W1 V X d w.heap.size (w.heap.size + 1) A n p xs := by rw [← hW1]; exact DcI.start K hr
  obtain ⟨eb, eo, hA, hc⟩ := hX.edge hk
  obtain ⟨sb, so, hSA, hsc⟩ := row_nat hX.lat (k := k) (by rw [hX.ll]; exact hk)
  have hl := (hX.img W0 (Keep.refl _ _)).le
  unfold maxLen at hl
  have c3 := (dc_cells I1.e).1.2.1
  rw [hA] at c3
  have ce : W1.cell? ⟨eb, eo + k * 23 + 1, none⟩ = some (.int .i64 (eTo X.x k : Int)) := by rw [← hto]; exact hc W1 I1.k 1 _ rfl
  have p0 : (0 : Int) ≤ (k : Int) := by omega
  have p1 : (k : Int) < (X.x.edges.length : Int) := by omega
  have HLL : Hid (X.lat.length = X.x.edges.length) := hX.ll
  have HW := Lib.hid hW1
  have HI1 := Lib.hid I1
  have HCM := Lib.hid hcm
  have HCQ := Lib.hid hcq
  have HV : Hid (dnCells ⟨1, k, eTo X.x k, 0⟩ = [.int .i64 1, .int .i64 (k : Int), .int .i64 (eTo X.x k : Int), .int .i64 0]) := show _ = _ from rfl
  have hbd := fun W => build_dn 1 (k : Int) (eTo X.x k : Int) 0 W
  clear hW1 I1 hr hcm hcq
  go_enter Tryz.func24, Tryz.ntmps24
  go_wp2_with (first | rw [HW.out] | (refine stop_at 20 rfl ?_))
  constructor
  refine wpList_runsC rfl (exec_slice_oneC slice_N30 (cs := dnCells ⟨1, k, eTo X.x k, 0⟩) rfl (by decide) (congrArg (fun l => Value.agg (List.toArray l)) HV.out.symm) _) ?_
  have I4 := HI1.out.keep0 ((Keep.refl [] W1).alloc (.cells (dnCells ⟨1, k, eTo X.x k, 0⟩).toArray 86))
  have B4 := Blk.new W1 86 (dnCells ⟨1, k, eTo X.x k, 0⟩).toArray
  have hsz : W0.heap.size ≤ (W1.alloc (.cells (dnCells ⟨1, k, eTo X.x k, 0⟩).toArray 86)).heap.size := I4.k.size
  generalize W1.alloc (.cells (dnCells ⟨1, k, eTo X.x k, 0⟩).toArray 86) = w4 at *
  refine wpList_append_reads rfl (.tmp 10) (.tmp 20) 39 rfl slice_N30 I4.r rfl (Reads.of_own (own_dn1 (B := 0) _ B4 (Nat.zero_le _))) rfl (dn_one _) hsz (by omega) (by unfold maxLen; omega) ?_
  intro v' w5 o5 k5 hb5
  obtain ⟨A5, p5, rfl⟩ := own_shape o5
  have I5 := I4.app o5 k5 (app_rb hb5)
  have I5a := I5.put 7 (.int .i64 (k : Int)) (d' := { d with edge := some k }) rfl
  have I5b := I5a.put 10 (.int .i64 (d.now : Int)) (d' := { d with edge := some k, since := d.now }) rfl
  have I6 := I5b.put 8 (.int .i64 (ePr X.x k : Int)) (d' := { d with edge := some k, since := d.now, ph := ePr X.x k }) rfl
  have d7 := (dc_cells I5.e).2.1.2.1
  have e7 := I5.e.frozen 7
  have d9 := (dc_cells I5a.e).2.1.2.2.2
  have d10 := (dc_cells I5a.e).2.2.1
  have e10 := I5a.e.frozen 10
  have d8 := (dc_cells I5b.e).2.1.2.2.1
  have e8 := I5b.e.frozen 8
  have d3 := (dc_cells I5b.e).1.2.1
  rw [hA] at d3
  have de := hc _ I5b.k 2 (.int .i64 (ePr X.x k : Int)) (by rw [← hpr]; rfl)
  have HI6 := Lib.hid I6
  clear I4 B4 hsz o5 k5 hb5 I5 I5a I5b I6 HI1 c3 ce hbd
  go_upto_region 5 with fail
  clear d7 e7 d9 d10 e10 d8 e8 d3 de
  generalize ((w5.setCell ⟨w.heap.size, 7, none⟩ (.int .i64 (k : Int))).setCell ⟨w.heap.size, 10, none⟩ (.int .i64 (d.now : Int))).setCell ⟨w.heap.size, 8, none⟩ (.int .i64 (ePr X.x k : Int)) = w6 at *
  have hF : ∀ w', Keep [] w6 w' → w'.cell? ⟨w.heap.size, 9, none⟩ = some (.int .i64 (d.now : Int)) ∧ w'.cell? ⟨w.heap.size, 4, none⟩ = some (.slice (some ⟨sb, so, none⟩) X.lat.length V.lc) ∧ w'.cell? ⟨sb, so + k, none⟩ = some (.int .i64 (X.la k : Int)) := fun w' kk => by
    have I := HI6.out.keep0 kk
    obtain ⟨⟨_, _, c4, _⟩, ⟨_, _, _, c9⟩, _, _, _⟩ := dc_cells I.e
    exact ⟨c9, by rw [c4, hSA], hsc w' I.k⟩
  have p2 : (k : Int) < (X.lat.length : Int) := by rw [HLL.out]; exact p1
  obtain ⟨du, hdu⟩ : ∃ du, d.now + X.la k = du := ⟨_, rfl⟩
  have hws : IntKind.i64.wrap ((d.now : Int) + (X.la k : Int)) = (du : Int) := by rw [IntWalk.i64_in _ (by omega)]; omega
  refine ap_begin 9 (Keep [] w6) rfl (Keep.refl _ _).drew (fun hS hPan => ?_) (fun _ _ d _ _ h => by cases d <;> exact h)
  (refine ap_val (v := ?_) 0 rfl (by kernel_rfl) (by kernel_rfl) (by kernel_rfl) (by kernel_rfl) (by rfl) hPan ?_ hS ?_; rotate_left; (intro w' hSw; obtain ⟨f1,f2,f3⟩ := hF w' hSw; go_simp; try with_reducible rfl); simp only [Act.put, List.setIfInBounds_toArray, List.set_cons_zero, List.set_cons_succ])
  (refine ap_val (v := ?_) 1 rfl (by kernel_rfl) (by kernel_rfl) (by kernel_rfl) (by kernel_rfl) (by rfl) hPan ?_ hS ?_; rotate_left; (intro w' hSw; obtain ⟨f1,f2,f3⟩ := hF w' hSw; go_simp; try with_reducible rfl); simp only [Act.put, List.setIfInBounds_toArray, List.set_cons_zero, List.set_cons_succ])
  (refine ap_val (v := ?_) 2 rfl (by kernel_rfl) (by kernel_rfl) (by kernel_rfl) (by kernel_rfl) (by rfl) hPan ?_ hS ?_; rotate_left; (intro w' hSw; obtain ⟨f1,f2,f3⟩ := hF w' hSw; go_simp; try with_reducible rfl); simp only [Act.put, List.setIfInBounds_toArray, List.set_cons_zero, List.set_cons_succ])
  (refine ap_val (v := ?_) 3 rfl (by kernel_rfl) (by kernel_rfl) (by kernel_rfl) (by kernel_rfl) (by rfl) hPan ?_ hS ?_; rotate_left; (intro w' hSw; obtain ⟨f1,f2,f3⟩ := hF w' hSw; go_simp; try with_reducible rfl); simp only [Act.put, List.setIfInBounds_toArray, List.set_cons_zero, List.set_cons_succ])
  (refine ap_val (v := ?_) 4 rfl (by kernel_rfl) (by kernel_rfl) (by kernel_rfl) (by kernel_rfl) (by rfl) hPan ?_ hS ?_; rotate_left; (intro w' hSw; obtain ⟨f1,f2,f3⟩ := hF w' hSw; go_simp; try with_reducible rfl); simp only [Act.put, List.setIfInBounds_toArray, List.set_cons_zero, List.set_cons_succ])
  (refine ap_val (v := ?_) 5 rfl (by kernel_rfl) (by kernel_rfl) (by kernel_rfl) (by kernel_rfl) (by rfl) hPan ?_ hS ?_; rotate_left; (intro w' hSw; obtain ⟨f1,f2,f3⟩ := hF w' hSw; go_simp; try with_reducible rfl); simp only [Act.put, List.setIfInBounds_toArray, List.set_cons_zero, List.set_cons_succ])
  (refine ap_val (v := ?_) 6 rfl (by kernel_rfl) (by kernel_rfl) (by kernel_rfl) (by kernel_rfl) (by rfl) hPan ?_ hS ?_; rotate_left; (intro w' hSw; obtain ⟨f1,f2,f3⟩ := hF w' hSw; go_simp; try with_reducible rfl); simp only [Act.put, List.setIfInBounds_toArray, List.set_cons_zero, List.set_cons_succ])
  (refine ap_val (v := ?_) 7 rfl (by kernel_rfl) (by kernel_rfl) (by kernel_rfl) (by kernel_rfl) (by rfl) hPan ?_ hS ?_; rotate_left; (intro w' hSw; obtain ⟨f1,f2,f3⟩ := hF w' hSw; go_simp; try with_reducible rfl); simp only [Act.put, List.setIfInBounds_toArray, List.set_cons_zero, List.set_cons_succ])
  (refine ap_val (v := ?_) 8 rfl (by kernel_rfl) (by kernel_rfl) (by kernel_rfl) (by kernel_rfl) (by rfl) hPan ?_ hS ?_; rotate_left; (intro w' hSw; go_simp; try with_reducible rfl); simp only [Act.put, List.setIfInBounds_toArray, List.set_cons_zero, List.set_cons_succ])
  have I7 := HI6.out.keep0 hS
  generalize w6.drew = w7 at *
  have c11 := (dc_cells I7.e).2.2.2.1
  have f11 := I7.e.frozen 11
  refine ap_one 9 (by kernel_rfl) ?_
  refine op_store1 (v := .int .i64 (du : Int)) 9 rfl (by rfl) rfl rfl rfl (by kernel_rfl) rfl rfl c11 f11 ?_
  have I8 := I7.put 11 (.int .i64 (du : Int)) (d' := { d with edge := some k, since := d.now, ph := ePr X.x k, due := du }) rfl
  refine ⟨fun hp => (by cases hp), ap_done (by kernel_rfl) ?_ _⟩
  (simp only [Act.put])
  have HI8 := Lib.hid I8
  clear hS hPan hF I7 c11 f11 hws I8
  generalize w7.setCell ⟨w.heap.size, 11, none⟩ (.int .i64 (du : Int)) = w8 at *
  obtain ⟨_, ⟨_, _, c8, c9⟩, _, c11, _⟩ := dc_cells HI8.out.e
  dsimp only at c8 c9 c11
  have HCA := Lib.hid HI8.out.e.cellsAt
  obtain ⟨cs, ho, hs⟩ := HI8.out.o
  by_cases hp1 : ePr X.x k = 1
  · cases live
    · skip
      have hcl := HCM.out w8 A5 (n + 1) p5 _ HI8.out.k HI8.out.r (by omega)
      have HC : Hid (beginD X d k false = ((cm { d with edge := some k, since := d.now, ph := ePr X.x k, due := d.now + X.la k }).1, ⟨1, k, eTo X.x k, 0⟩ :: (cm { d with edge := some k, since := d.now, ph := ePr X.x k, due := d.now + X.la k }).2)) := by
        show _ = _
        rw [HCQ.out]
        unfold beginD
        rw [if_pos (by exact .inl ⟨hp1, rfl⟩)]
      obtain ⟨rn, hrn⟩ : ∃ rn, cm { d with edge := some k, since := d.now, ph := ePr X.x k, due := d.now + X.la k } = rn := ⟨_, rfl⟩
      rw [hrn] at hcl HC
      rw [hdu] at hcl
      have q1 : ((ePr X.x k : Int) == 1) = true := by simp; omega
      have q2 : ((ePr X.x k : Int) = 1) = True := eq_true (by omega)
      have q3 : (ePr X.x k = 1) = True := eq_true hp1
      clear hp1
      have HCL := Lib.hid hcl
      clear hdu hrn hcl HCM HCQ
      go_upto_region 7 with fail
      clear c8 c9 c11
      generalize ePr X.x k = pr at *
      go_wp2_with (first
        | (refine wpList_load_agg rfl 31 (.tmp 4) rfl rfl (cs := dcL V X { d with edge := some k, since := d.now, ph := pr, due := du }) agg_E30 HCA.out ?_)
        | (go_at_call 36; refine HCL.out.mono ?_; rintro _ w9 ⟨A9, p9, rfl, o9, K9, L9, rb9⟩)
        | (refine stop_store 31 (.tmp 8) (.tmp 67) rfl ?_))
      constructor
      have I9 := HI8.out.app o9 L9 rb9
      obtain ⟨cs9, ho9, hs9⟩ := I9.o
      refine wpList_store_all rfl 31 (.tmp 8) (.tmp 67) rfl rfl rfl (vs := dcL V X rn.1) agg_E30.2 ho9 (dcL_one _ _ _) hs9.symm ?_
      intro w10 d10 k10
      obtain ⟨oo, KK, LL, rr⟩ := I9.done k10
      go_wp2
      refine bodyPost_ret (results_blk_tmpD rfl _ rfl rfl d10 agg_E30) rfl ?_
      rw [HC.out]
      have hl : n + 1 + rn.2.length = n + (⟨1, k, eTo X.x k, 0⟩ :: rn.2 : List Nw).length := by rw [List.length_cons]; omega
      rw [hl] at oo rr ⊢
      refine ⟨A9, p9, rfl, ?_, KK, LL, rr⟩
      rw [show dnV (⟨1, k, eTo X.x k, 0⟩ :: rn.2) = dnCells ⟨1, k, eTo X.x k, 0⟩ ++ dnV rn.2 from rfl, ← List.append_assoc]
      exact oo
    · skip
      have HC : Hid (beginD X d k true = ({ d with edge := some k, since := d.now, ph := ePr X.x k, due := du }, [⟨1, k, eTo X.x k, 0⟩])) := by
        show _ = _
        unfold beginD
        rw [if_neg (by rintro (⟨_, h⟩ | ⟨h, _⟩); cases h; exact h hp1), hdu]
      have q1 : ((ePr X.x k : Int) == 1) = true := by simp; omega
      have q2 : ((ePr X.x k : Int) = 1) = True := eq_true (by omega)
      have q3 : (ePr X.x k = 1) = True := eq_true hp1
      clear hp1
      clear hdu
      go_upto_region 8 with fail
      clear c8 c9 c11
      generalize ePr X.x k = pr at *
      go_wp2_with (first
        | (refine wpList_load_agg rfl 31 (.tmp 4) rfl rfl (cs := dcL V X { d with edge := some k, since := d.now, ph := pr, due := du }) agg_E30 HCA.out ?_)
        | (refine stop_store 31 (.tmp 8) (.tmp 69) rfl ?_))
      constructor
      refine wpList_store_all rfl 31 (.tmp 8) (.tmp 69) rfl rfl rfl (vs := dcL V X { d with edge := some k, since := d.now, ph := pr, due := du }) agg_E30.2 ho (dcL_one _ _ _) hs.symm ?_
      intro w9 d9 k9
      obtain ⟨o9, K9, L9, rb9⟩ := HI8.out.done k9
      go_wp2
      refine bodyPost_ret (results_blk_tmpD rfl _ rfl rfl d9 agg_E30) rfl ?_
      rw [HC.out]
      exact ⟨A5, p5, rfl, o9, K9, L9, rb9⟩
  · by_cases hz : X.la k = 0
    · skip
      have hcl := HCM.out w8 A5 (n + 1) p5 _ HI8.out.k HI8.out.r (by omega)
      have HC : Hid (beginD X d k live = ((cm { d with edge := some k, since := d.now, ph := ePr X.x k, due := d.now + X.la k }).1, ⟨1, k, eTo X.x k, 0⟩ :: (cm { d with edge := some k, since := d.now, ph := ePr X.x k, due := d.now + X.la k }).2)) := by
        show _ = _
        rw [HCQ.out]
        unfold beginD
        rw [if_pos (by exact .inr ⟨hp1, hz⟩)]
      obtain ⟨rn, hrn⟩ : ∃ rn, cm { d with edge := some k, since := d.now, ph := ePr X.x k, due := d.now + X.la k } = rn := ⟨_, rfl⟩
      rw [hrn] at hcl HC
      rw [hdu] at hcl
      have q1 : ((ePr X.x k : Int) == 1) = false := by simp; omega
      have q2 : ((ePr X.x k : Int) = 1) = False := eq_false (by omega)
      have q3 : (ePr X.x k = 1) = False := eq_false hp1
      have q4 : ((du : Int) == (d.now : Int)) = true := by simp; omega
      have q5 : ((du : Int) = (d.now : Int)) = True := eq_true (by omega)
      have q6 : (du = d.now) = True := eq_true (by omega)
      have HCL := Lib.hid hcl
      clear hdu hrn hcl HCM HCQ
      go_upto_region 7 with fail
      clear c8 c9 c11
      generalize ePr X.x k = pr at *
      go_wp2_with (first
        | (refine wpList_load_agg rfl 31 (.tmp 4) rfl rfl (cs := dcL V X { d with edge := some k, since := d.now, ph := pr, due := du }) agg_E30 HCA.out ?_)
        | (go_at_call 36; refine HCL.out.mono ?_; rintro _ w9 ⟨A9, p9, rfl, o9, K9, L9, rb9⟩)
        | (refine stop_store 31 (.tmp 8) (.tmp 67) rfl ?_))
      constructor
      have I9 := HI8.out.app o9 L9 rb9
      obtain ⟨cs9, ho9, hs9⟩ := I9.o
      refine wpList_store_all rfl 31 (.tmp 8) (.tmp 67) rfl rfl rfl (vs := dcL V X rn.1) agg_E30.2 ho9 (dcL_one _ _ _) hs9.symm ?_
      intro w10 d10 k10
      obtain ⟨oo, KK, LL, rr⟩ := I9.done k10
      go_wp2
      refine bodyPost_ret (results_blk_tmpD rfl _ rfl rfl d10 agg_E30) rfl ?_
      rw [HC.out]
      have hl : n + 1 + rn.2.length = n + (⟨1, k, eTo X.x k, 0⟩ :: rn.2 : List Nw).length := by rw [List.length_cons]; omega
      rw [hl] at oo rr ⊢
      refine ⟨A9, p9, rfl, ?_, KK, LL, rr⟩
      rw [show dnV (⟨1, k, eTo X.x k, 0⟩ :: rn.2) = dnCells ⟨1, k, eTo X.x k, 0⟩ ++ dnV rn.2 from rfl, ← List.append_assoc]
      exact oo
    · skip
      have HC : Hid (beginD X d k live = ({ d with edge := some k, since := d.now, ph := ePr X.x k, due := du }, [⟨1, k, eTo X.x k, 0⟩])) := by
        show _ = _
        unfold beginD
        rw [if_neg (by rintro (⟨h, _⟩ | ⟨_, h⟩); exact hp1 h; exact hz h), hdu]
      have q1 : ((ePr X.x k : Int) == 1) = false := by simp; omega
      have q2 : ((ePr X.x k : Int) = 1) = False := eq_false (by omega)
      have q3 : (ePr X.x k = 1) = False := eq_false hp1
      have q4 : ((du : Int) == (d.now : Int)) = false := by simp; omega
      have q5 : ((du : Int) = (d.now : Int)) = False := eq_false (by omega)
      have q6 : (du = d.now) = False := eq_false (by omega)
      clear hdu
      go_upto_region 8 with fail
      clear c8 c9 c11
      generalize ePr X.x k = pr at *
      go_wp2_with (first
        | (refine wpList_load_agg rfl 31 (.tmp 4) rfl rfl (cs := dcL V X { d with edge := some k, since := d.now, ph := pr, due := du }) agg_E30 HCA.out ?_)
        | (refine stop_store 31 (.tmp 8) (.tmp 69) rfl ?_))
      constructor
      refine wpList_store_all rfl 31 (.tmp 8) (.tmp 69) rfl rfl rfl (vs := dcL V X { d with edge := some k, since := d.now, ph := pr, due := du }) agg_E30.2 ho (dcL_one _ _ _) hs.symm ?_
      intro w9 d9 k9
      obtain ⟨o9, K9, L9, rb9⟩ := HI8.out.done k9
      go_wp2
      refine bodyPost_ret (results_blk_tmpD rfl _ rfl rfl d9 agg_E30) rfl ?_
      rw [HC.out]
      exact ⟨A5, p5, rfl, o9, K9, L9, rb9⟩
end
end Go.Proofs.YteflgdnekflbbaaGreatDoor
