/- A store in memory; Stop, Runs, Confirmed, other; walked. Condition: the device is one that may be, of at least six sectors of thirteen words. A store's Begin, Put, Staged, Confirm; walked. Condition: the device is one that may be, of at least six sectors of thirteen words. A store's candidate, Start; walked. Condition: the device is one that may be, of at least six sectors of thirteen words. -/
import Derived.Test.YteanpgkonhdbpaaBkT
import Derived.Test.YteanpgkonhdbpaaBkP
import Derived.Test.YteanpgkonhdbpaaFlow
import Derived.Test.YteanpgkonhdbpaaRelFlow
namespace Go.Proofs.Yteanpgkonhdbpaa
open Go.RowKit

/-- The plain store: the device, the two banks, which one runs (below 0: none). -/
structure StS where
  d : Dev
  x0 : BkS
  x1 : BkS
  r : Int
/-- Where it lies. -/
structure StW where
  gs : Nat
  g : Nat
  gb0 : Nat
  gb1 : Nat
  b1 : Nat
  b2 : Nat
def srCells (v : StW) (r : Int) : Array Value := #[.pointer (some ⟨v.g, 0, none⟩), .pointer (some ⟨v.gb0, 0, none⟩), .pointer (some ⟨v.gb1, 0, none⟩), .int .i64 r]
structure SrAt (W : World) (v : StW) (s : StS) : Prop where
  st : Blk W v.gs 152 (srCells v s.r)
  dev : DevAt W v.g v.b1 v.b2 s.d
  bk0 : BankAt W v.gb0 v.g s.x0
  bk1 : BankAt W v.gb1 v.g s.x1
  ne : v.gb0 ≠ v.gb1
structure BkFine (b : BkS) : Prop where
  pn : b.pn ≤ 4096
  s : b.s < 4294967296
  m : b.m ≤ 16384
  m4 : b.opn = true → b.m = 4 * b.pn
structure SrOk (s : StS) : Prop where
  ok : s.d.Ok
  six : 6 ≤ s.d.ns
  words : 13 ≤ s.d.nw
  base0 : s.x0.base = 0
  many0 : s.x0.many = s.d.ns / 2
  base1 : s.x1.base = s.d.ns / 2
  many1 : s.x1.many = s.d.ns / 2
  run : s.r = -1 ∨ s.r = 0 ∨ s.r = 1
  fine0 : BkFine s.x0
  fine1 : BkFine s.x1
def StW.all (v : StW) : List Nat := [v.gs, v.gb0, v.gb1, v.g, v.b1, v.b2]
def StS.bk (s : StS) (i : Nat) : BkS := if i = 0 then s.x0 else s.x1
def StW.gb (v : StW) (i : Nat) : Nat := if i = 0 then v.gb0 else v.gb1
def StS.put (s : StS) (i : Nat) (d' : Dev) (b' : BkS) : StS := if i = 0 then { s with d := d', x0 := b' } else { s with d := d', x1 := b' }
section
variable {W W' : World} {v : StW} {s : StS}
theorem SrAt.keep0 (h : SrAt W v s) (k : Keep [] W W') : SrAt W' v s := ⟨h.st.keep0 k, h.dev.keep0 k, h.bk0.keep0 k, h.bk1.keep0 k, h.ne⟩
theorem SrAt.keep {F : List Nat} (h : SrAt W v s) (k : Keep F W W') (hF : ∀ y ∈ v.all, y ∉ F) : SrAt W' v s := by
  have m : ∀ y, y ∈ v.all → y ∉ F := hF
  unfold StW.all at m
  exact ⟨h.st.keep k (m _ (by simp)), h.dev.keep k (m _ (by simp)) (m _ (by simp)) (m _ (by simp)), Blk.keep h.bk0 k (m _ (by simp)), Blk.keep h.bk1 k (m _ (by simp)), h.ne⟩
theorem SrAt.lt (h : SrAt W v s) : ∀ y ∈ v.all, y < W.heap.size := fun y hy => by
  have h1 := h.st.lt
  have h2 := h.dev.dev.lt
  have h3 := h.dev.bits.lt
  have h4 := h.dev.worn.lt
  have h5 := Blk.lt h.bk0
  have h6 := Blk.lt h.bk1
  unfold StW.all at hy
  simp only [List.mem_cons, List.not_mem_nil, or_false] at hy
  omega
theorem SrAt.bank (h : SrAt W v s) (i : Nat) : BankAt W (v.gb i) v.g (s.bk i) := by
  unfold StW.gb StS.bk
  split
  · exact h.bk0
  · exact h.bk1
theorem SrAt.cells (h : SrAt W v s) : W.cell? ⟨v.gs, 0, none⟩ = some (.pointer (some ⟨v.g, 0, none⟩)) ∧ W.cell? ⟨v.gs, 1, none⟩ = some (.pointer (some ⟨v.gb0, 0, none⟩)) ∧ W.cell? ⟨v.gs, 2, none⟩ = some (.pointer (some ⟨v.gb1, 0, none⟩)) ∧ W.cell? ⟨v.gs, 3, none⟩ = some (.int .i64 s.r) :=
  ⟨h.st.cell 0, h.st.cell 1, h.st.cell 2, h.st.cell 3⟩
theorem SrAt.cellB (h : SrAt W v s) {i : Nat} (hi : i < 2) : W.cell? ⟨v.gs, 1 + i, none⟩ = some (.pointer (some ⟨v.gb i, 0, none⟩)) := by
  rcases i with _ | _ | i
  · exact h.cells.2.1
  · exact h.cells.2.2.1
  · omega
theorem SrOk.bk (h : SrOk s) {i : Nat} (hi : i < 2) : BkOk s.d (s.bk i) := by
  have h6 := h.six
  rcases i with _ | _ | i
  · exact ⟨by show 3 ≤ s.x0.many; rw [h.many0]; omega, by show s.x0.base + s.x0.many ≤ _; rw [h.many0, h.base0]; omega, h.words⟩
  · exact ⟨by show 3 ≤ s.x1.many; rw [h.many1]; omega, by show s.x1.base + s.x1.many ≤ _; rw [h.many1, h.base1]; omega, h.words⟩
  · omega
theorem SrOk.fine (h : SrOk s) (i : Nat) : BkFine (s.bk i) := by
  unfold StS.bk
  split
  · exact h.fine0
  · exact h.fine1
theorem SrOk.put {i : Nat} (hi : i < 2) (h : SrOk s) {d' : Dev} {b' : BkS} (hd : d'.Ok) (hk : DimsJ s.d d') (hb : b'.base = (s.bk i).base) (hm : b'.many = (s.bk i).many) (hf : BkFine b') : SrOk (s.put i d' b') := by
  rcases i with _ | _ | i
  · have hb0 : b'.base = s.x0.base := hb
    have hm0 : b'.many = s.x0.many := hm
    exact ⟨hd, by show 6 ≤ d'.ns; rw [hk.ns]; exact h.six, by show 13 ≤ d'.nw; rw [hk.nw]; exact h.words, hb0.trans h.base0, by show b'.many = d'.ns / 2; rw [hk.ns, hm0, h.many0], by show s.x1.base = d'.ns / 2; rw [hk.ns, h.base1], by show s.x1.many = d'.ns / 2; rw [hk.ns, h.many1], h.run, hf, h.fine1⟩
  · have hb0 : b'.base = s.x1.base := hb
    have hm0 : b'.many = s.x1.many := hm
    exact ⟨hd, by show 6 ≤ d'.ns; rw [hk.ns]; exact h.six, by show 13 ≤ d'.nw; rw [hk.nw]; exact h.words, h.base0, by show s.x0.many = d'.ns / 2; rw [hk.ns, h.many0], by show b'.base = d'.ns / 2; rw [hk.ns, hb0, h.base1], by show b'.many = d'.ns / 2; rw [hk.ns, hm0, h.many1], h.run, h.fine0, hf⟩
  · omega
theorem SrAt.nes (h : SrAt W v s) : v.gs ≠ v.gb0 ∧ v.gs ≠ v.gb1 ∧ v.gs ≠ v.g ∧ v.gs ≠ v.b1 ∧ v.gs ≠ v.b2 ∧ v.gb0 ≠ v.g ∧ v.gb0 ≠ v.b1 ∧ v.gb0 ≠ v.b2 ∧ v.gb1 ≠ v.g ∧ v.gb1 ≠ v.b1 ∧ v.gb1 ≠ v.b2 :=
  ⟨h.st.ne_ h.bk0 (by decide), h.st.ne_ h.bk1 (by decide), h.st.ne_ h.dev.dev (by decide), h.st.ne_ h.dev.bits (by decide), h.st.ne_ h.dev.worn (by decide), Blk.ne_ h.bk0 h.dev.dev (by decide), Blk.ne_ h.bk0 h.dev.bits (by decide), Blk.ne_ h.bk0 h.dev.worn (by decide), Blk.ne_ h.bk1 h.dev.dev (by decide), Blk.ne_ h.bk1 h.dev.bits (by decide), Blk.ne_ h.bk1 h.dev.worn (by decide)⟩
/-- A bank's call. -/
theorem SrAt.call {d' : Dev} {b' : BkS} {i : Nat} (hi : i < 2) (h : SrAt W v s) (l : LeftB W W' (v.gb i) v.g v.b1 v.b2 d' b') : SrAt W' v (s.put i d' b') ∧ Keep v.all W W' := by
  obtain ⟨n1, n2, n3, n4, n5, n6, n7, n8, n9, n10, n11⟩ := h.nes
  have hne := h.ne
  have k := l.keep
  rcases i with _ | _ | i
  · have k0 : Keep [v.gb0, v.g, v.b1, v.b2] W W' := k
    refine ⟨⟨h.st.keep k0 (by simp [n1, n3, n4, n5]), l.dev, l.bank, Blk.keep h.bk1 k0 (by simp [Ne.symm hne, n9, n10, n11]), hne⟩, k0.mono (by unfold StW.all; intro y hy _; simp only [List.mem_cons, List.not_mem_nil, or_false] at hy ⊢; omega)⟩
  · have k0 : Keep [v.gb1, v.g, v.b1, v.b2] W W' := k
    refine ⟨⟨h.st.keep k0 (by simp [n2, n3, n4, n5]), l.dev, Blk.keep h.bk0 k0 (by simp [hne, n6, n7, n8]), l.bank, hne⟩, k0.mono (by unfold StW.all; intro y hy _; simp only [List.mem_cons, List.not_mem_nil, or_false] at hy ⊢; omega)⟩
  · omega
end
/-- Does an image run that is confirmed? -/
def confS (s : StS) : Bool := decide (0 ≤ s.r) && (stateB s.d (s.bk s.r.toNat)).conf
def othE (s : StS) : Int := if s.d.on = false then 63 else if confS s = false then 80 else 0
def othI (s : StS) : Nat := (1 - s.r).toNat
theorem othE_ok {s : StS} (h : othE s = 0) : s.d.on = true ∧ confS s = true ∧ 0 ≤ s.r := by
  unfold othE at h
  split at h
  · cases h
  · rename_i h1
    split at h
    · cases h
    · rename_i h2
      have hc : confS s = true := by cases hx : confS s <;> simp_all
      refine ⟨by cases hx : s.d.on <;> simp_all, hc, ?_⟩
      unfold confS at hc
      rw [Bool.and_eq_true] at hc
      exact of_decide_eq_true hc.1

section
variable (v : StW) (s : StS) (w : World) (hs : SrAt w v s)
set_option maxRecDepth 100000 in
set_option maxHeartbeats 1000000 in
theorem sstop_any (hs : SrAt w v s) : Calls Try.prog 92 #[.pointer (some ⟨v.gs, 0, none⟩)] w fun e w' => e = .returned (.tuple #[]) ∧ SrAt w' v { s with r := -1 } ∧ Keep [v.gs] w w' := by
  obtain ⟨c0, c1, c2, c3⟩ := hs.cells
  have gf := hs.st.frozen 3
  have hl := hs.st.lt
  obtain ⟨n1, n2, n3, n4, n5, n6, n7, n8, n9, n10, n11⟩ := hs.nes
  have s0 := hs.st.set_ 3 (.int .i64 (-1))
  have k0 := keep_set w v.gs 3 (.int .i64 (-1))
  have HF : Hid (SrAt (w.setCell ⟨v.gs, 3, none⟩ (.int .i64 (-1))) v { s with r := -1 } ∧ Keep [v.gs] w (w.setCell ⟨v.gs, 3, none⟩ (.int .i64 (-1)))) :=
    ⟨⟨s0, hs.dev.keep k0 (by simp [Ne.symm n3]) (by simp [Ne.symm n4]) (by simp [Ne.symm n5]), Blk.keep hs.bk0 k0 (by simp [Ne.symm n1]), Blk.keep hs.bk1 k0 (by simp [Ne.symm n2]), hs.ne⟩, k0⟩
  clear hs s0 k0 n1 n2 n3 n4 n5 n6 n7 n8 n9 n10 n11
  go_enter Try.func92, Try.ntmps92
  go_wp2_with fail
  go_end0
  exact ⟨rfl, HF.out.1, HF.out.2⟩
theorem run_maxS {P : Program} {w : World} {ev : Operand → Value} {x y : Operand} {m n : Int} {dst : Option Tmp} {ats : Array TypeId} {tyy : TypeId} {pos : String} {after : Array Edge} {gd : Option (Nat × Bool)} (hx : ev x = .int .i64 m) (hy : ev y = .int .i64 n) :
    (execOp ev ⟨dst, .call { callee := .builtin .max, args := #[x, y], argTypes := ats }, tyy, pos, after, gd⟩).run P w = .ok (.value (.int .i64 (max m n))) w := by
  rcases Int.lt_or_le m n with h | h
  · rw [show max m n = n by omega]
    have h1 : decide (m < n) = true := decide_eq_true h
    simp [go_sem, hx, hy, h]
  · rw [show max m n = m by omega]
    have h3 : ¬ m < n := by omega
    simp [go_sem, hx, hy, h3]
set_option maxRecDepth 100000 in
set_option maxHeartbeats 1000000 in
theorem sruns_any (hs : SrAt w v s) : Calls Try.prog 43 #[.pointer (some ⟨v.gs, 0, none⟩)] w fun e w' => e = .returned (.tuple #[.int .i64 (max s.r 0), .bool (decide (0 ≤ s.r))]) ∧ Keep [] w w' := by
  have hF : ∀ W, Keep [] w W → W.cell? ⟨v.gs, 3, none⟩ = some (.int .i64 s.r) ∧ True := fun W k => ⟨(hs.keep0 k).cells.2.2.2, trivial⟩
  clear hs
  go_enter Try.func43, Try.ntmps43
  go_upto_region 1 with fail
  refine wp_region_flow (Keep [] w) rfl (by kernel_rfl) (Keep.refl _ _).drew ?_
  iterate 4 (refine fl_val (v := ?_) (by rfl) ?_ ?_; rotate_left; (intro w' hS; obtain ⟨f0,f1⟩ := hF w' hS; go_simp; with_reducible rfl); simp only [Act.put, List.setIfInBounds_toArray, List.set_cons_zero, List.set_cons_succ])
  refine fl_val (v := .int .i64 (max s.r 0)) (by rfl) (fun w' _ => run_maxS rfl rfl) ?_
  simp only [Act.put, List.setIfInBounds_toArray, List.set_cons_zero, List.set_cons_succ]
  iterate 7 (refine fl_val (v := ?_) (by rfl) ?_ ?_; rotate_left; (intro w' hS; obtain ⟨f0,f1⟩ := hF w' hS; go_simp; with_reducible rfl); simp only [Act.put, List.setIfInBounds_toArray, List.set_cons_zero, List.set_cons_succ])
  refine fl_nil ?_
  intro w' hS
  go_wp2_with fail
  go_ret2
  exact ⟨rfl, hS⟩
set_option maxRecDepth 100000 in
set_option maxHeartbeats 2000000 in
theorem sconfirmed_any (hs : SrAt w v s) (ho : SrOk s) : Calls Try.prog 44 #[.pointer (some ⟨v.gs, 0, none⟩)] w fun e w' => e = .returned (.bool (confS s)) ∧ Keep [] w w' := by
  have HCF : Hid (confS s = (decide (0 ≤ s.r) && (stateB s.d (s.bk s.r.toNat)).conf)) := show _ = _ from rfl
  by_cases h0 : 0 ≤ s.r
  · have hr := ho.run
    have hi2 : s.r.toNat < 2 := by omega
    have hrc : s.r = ((s.r.toNat : Nat) : Int) := by omega
    have hF : ∀ W, Keep [] w W → W.cell? ⟨v.gs, 3, none⟩ = some (.int .i64 ((s.r.toNat : Nat) : Int)) ∧ W.cell? ⟨v.gs, 1 + s.r.toNat, none⟩ = some (.pointer (some ⟨v.gb s.r.toNat, 0, none⟩)) := fun W k => ⟨by rw [(hs.keep0 k).cells.2.2.2, ← hrc], (hs.keep0 k).cellB hi2⟩
    have hST := fun W (k : Keep [] w W) => Lib.hid (bstate_any (v.gb s.r.toNat) v.g v.b1 v.b2 s.d (s.bk s.r.toNat) W ((hs.keep0 k).bank _) (hs.keep0 k).dev ho.ok (ho.bk hi2))
    rw [decide_eq_true h0, Bool.true_and] at HCF
    generalize stateB s.d (s.bk s.r.toNat) = h at *
    have q0 : decide ((0 : Int) ≤ ((s.r.toNat : Nat) : Int)) = true := decide_eq_true (by omega)
    have q1 : (0 : Int) ≤ ((s.r.toNat : Nat) : Int) := by omega
    have q2 : ((s.r.toNat : Nat) : Int) < 2 := by omega
    have HR := HCF
    generalize confS s = res at *
    clear HCF hr h0 hrc
    generalize s.r.toNat = j at *
    generalize v.gb j = gbj at *
    clear hs ho
    go_enter Try.func44, Try.ntmps44
    go_upto_region 1 with fail
    refine wp_region_flow (Keep [] w) rfl (by kernel_rfl) (Keep.refl _ _).drew ?_
    iterate 15 (refine fl_val (v := ?_) (by rfl) ?_ ?_; rotate_left; (intro w' hS; obtain ⟨f0,f1⟩ := hF w' hS; go_simp; with_reducible rfl); simp only [Act.put, List.setIfInBounds_toArray, List.set_cons_zero, List.set_cons_succ])
    refine fl_call (f := 32) (v := .agg (hdCells h).toArray) (by rfl) rfl (by simp only [List.map_toArray, List.map_cons, List.map_nil]; rfl) Try.func32 (by kernel_rfl) (by kernel_rfl) (fun w' hS => (hST w' hS).out.mono (fun e w'' hh => ⟨hh.1, hS.then hh.2⟩)) ?_; simp only [Act.put, List.setIfInBounds_toArray, List.set_cons_zero, List.set_cons_succ]
    refine fl_val (v := .bool h.conf) (by rfl) (fun w' _ => by kernel_rfl) ?_
    simp only [Act.put, List.setIfInBounds_toArray, List.set_cons_zero, List.set_cons_succ]
    iterate 2 (refine fl_val (v := ?_) (by rfl) ?_ ?_; rotate_left; (intro w' hS; obtain ⟨f0,f1⟩ := hF w' hS; go_simp; with_reducible rfl); simp only [Act.put, List.setIfInBounds_toArray, List.set_cons_zero, List.set_cons_succ])
    refine fl_nil ?_
    intro w' hS
    go_wp2_with fail
    go_ret
    exact ⟨by rw [HR.out]; rfl, hS⟩
  · have hF : ∀ W, Keep [] w W → W.cell? ⟨v.gs, 3, none⟩ = some (.int .i64 s.r) ∧ True := fun W k => ⟨(hs.keep0 k).cells.2.2.2, trivial⟩
    have q0 : decide ((0 : Int) ≤ s.r) = false := decide_eq_false h0
    have q1 : ((0 : Int) ≤ s.r) = False := eq_false h0
    rw [q0, Bool.false_and] at HCF
    generalize confS s = res at *
    clear hs ho h0
    go_enter Try.func44, Try.ntmps44
    go_upto_region 1 with fail
    refine wp_region_flow (Keep [] w) rfl (by kernel_rfl) (Keep.refl _ _).drew ?_
    iterate 6 (refine fl_val (v := ?_) (by rfl) ?_ ?_; rotate_left; (intro w' hS; obtain ⟨f0,f1⟩ := hF w' hS; go_simp; with_reducible rfl); simp only [Act.put, List.setIfInBounds_toArray, List.set_cons_zero, List.set_cons_succ])
    iterate 11 (refine fl_off (by rfl) ?_; simp only [Act.put, List.setIfInBounds_toArray, List.set_cons_zero, List.set_cons_succ])
    iterate 2 (refine fl_val (v := ?_) (by rfl) ?_ ?_; rotate_left; (intro w' hS; obtain ⟨f0,f1⟩ := hF w' hS; go_simp; with_reducible rfl); simp only [Act.put, List.setIfInBounds_toArray, List.set_cons_zero, List.set_cons_succ])
    refine fl_nil ?_
    intro w' hS
    go_wp2_with fail
    go_ret
    exact ⟨by rw [HCF.out]; rfl, hS⟩
def othP (v : StW) (s : StS) : Value := if othE s = 0 then .pointer (some ⟨v.gb (othI s), 0, none⟩) else .pointer none
def RetOther (w : World) (p : Value) (n : Int) (e : Ending) (w' : World) : Prop := e = .returned (.tuple #[p, .int .i64 n]) ∧ Keep [] w w'
set_option maxRecDepth 100000 in
set_option maxHeartbeats 2000000 in
theorem sother_any (hs : SrAt w v s) (ho : SrOk s) : Calls Try.prog 91 #[.pointer (some ⟨v.gs, 0, none⟩)] w (RetOther w (othP v s) (othE s)) := by
  obtain ⟨c0, c1, c2, c3⟩ := hs.cells
  have HON := Lib.hid (fon_any v.g v.b1 v.b2 s.d w hs.dev)
  have HCN := Lib.hid (sconfirmed_any v s w hs ho)
  have HOE : Hid (othE s = if s.d.on = false then 63 else if confS s = false then 80 else 0) := show _ = _ from rfl
  have HOK := Lib.hid (fun h : othE s = 0 => othE_ok h)
  have HFC : Hid (0 ≤ s.r → ∀ W, Keep [] w W → W.cell? ⟨v.gs, 3, none⟩ = some (.int .i64 s.r) ∧ W.cell? ⟨v.gs, 1 + othI s, none⟩ = some (.pointer (some ⟨v.gb (othI s), 0, none⟩))) := fun h0 W k => ⟨(hs.keep0 k).cells.2.2.2, (hs.keep0 k).cellB (by have := ho.run; unfold othI; omega)⟩
  have HOI : Hid (0 ≤ s.r → ((othI s : Nat) : Int) = 1 - s.r ∧ othI s < 2) := fun h0 => by have := ho.run; unfold othI; omega
  have hrr := ho.run
  generalize hoi : othI s = oi at *
  have HPP : Hid (othP v s = if othE s = 0 then .pointer (some ⟨v.gb oi, 0, none⟩) else .pointer none) := by
    show _ = _
    unfold othP
    rw [hoi]
  generalize othP v s = pp at *
  generalize confS s = cf at *
  generalize othE s = oe at *
  clear hs ho hoi
  go_enter Try.func91, Try.ntmps91
  go_wp2_with fail
  refine HON.out.mono ?_
  rintro e w1 ⟨rfl, rfl⟩
  clear HON
  cases hon : s.d.on with
  | false =>
    have HR : Hid (oe = 63) := by show _ = _; rw [HOE.out, if_pos hon]
    go_wp2_with fail
    go_ret2
    rw [HPP.out, HR.out]
    exact ⟨rfl, Keep.refl _ _⟩
  | true =>
    go_wp2_with fail
    refine HCN.out.mono ?_
    rintro e w1 ⟨rfl, k1⟩
    clear HCN
    cases cf with
    | false =>
      have HR : Hid (oe = 80) := by show _ = _; rw [HOE.out, if_neg (by rw [hon]; decide), if_pos rfl]
      clear HOE HOK HFC HOI
      go_wp2_with fail
      go_ret2
      rw [HPP.out, HR.out]
      exact ⟨rfl, k1⟩
    | true =>
      have hoe : oe = 0 := by rw [HOE.out, if_neg (by rw [hon]; decide), if_neg (by decide)]
      subst hoe
      obtain ⟨_, _, h0⟩ := HOK.out rfl
      obtain ⟨i1, i2⟩ := HOI.out h0
      have hF := fun W (k : Keep [] w1 W) => HFC.out h0 W (k1.then k)
      have q0 : IntKind.i64.wrap (1 - s.r) = ((oi : Nat) : Int) := by rw [← i1]; exact IntWalk.i64_in _ (by omega)
      have q1 : (0 : Int) ≤ ((oi : Nat) : Int) := by omega
      have q2 : ((oi : Nat) : Int) < 2 := by omega
      clear HOE HOK HFC HOI i1 c0 c1 c2 c3
      go_upto_region 5 with fail
      refine wp_region_flow (Keep [] w1) rfl (by kernel_rfl) (Keep.refl _ _).drew ?_
      iterate 12 (refine fl_val (v := ?_) (by rfl) ?_ ?_; rotate_left; (intro w' hS; obtain ⟨f0,f1⟩ := hF w' hS; go_simp; with_reducible rfl); simp only [Act.put, List.setIfInBounds_toArray, List.set_cons_zero, List.set_cons_succ])
      refine fl_nil ?_
      intro w' hS
      go_wp2_with fail
      go_ret2
      rw [HPP.out]
      first | rw [if_pos rfl] | rw [if_pos trivial]
      exact ⟨rfl, k1.then hS⟩
end
end Go.Proofs.Yteanpgkonhdbpaa

namespace Go.Proofs.Yteanpgkonhdbpaa
open Go.RowKit

theorem putL_shape : ∀ (l : List Nat) (d : Dev) (b : BkS), (putL d b l).2.1.base = b.base ∧ (putL d b l).2.1.many = b.many ∧ ((putL d b l).2.2 = 0 → (putL d b l).2.1 = putsB b l) ∧ ((putL d b l).2.2 ≠ 0 → (putL d b l).2.1.opn = false)
  | [], d, b => ⟨rfl, rfl, fun _ => rfl, fun e => absurd rfl e⟩
  | x :: l, d, b => by
    rw [putL]
    by_cases hp : (progS d ((b.base + 2 + b.pn / d.nw : Nat) : Int) ((b.pn % d.nw : Nat) : Int) x).2 = 0
    · rw [if_pos hp]
      obtain ⟨k1, k2, k3, k4⟩ := putL_shape l (progS d ((b.base + 2 + b.pn / d.nw : Nat) : Int) ((b.pn % d.nw : Nat) : Int) x).1 { b with pn := b.pn + 1, s := wordC b.s x, m := b.m + 4 }
      refine ⟨k1, k2, fun e => ?_, k4⟩
      rw [k3 e]
      unfold putsB
      rw [List.length_cons]
      show BkS.mk b.base b.many b.opn (b.pn + 1 + l.length) (foldC (wordC b.s x) l) (b.m + 4 + l.length * 4) = BkS.mk b.base b.many b.opn (b.pn + (l.length + 1)) (foldC b.s (x :: l)) (b.m + (l.length + 1) * 4)
      congr 1
      · omega
      · omega
    · rw [if_neg hp]
      exact ⟨rfl, rfl, fun e => absurd e hp, fun _ => rfl⟩
theorem begin_fine {d : Dev} {b : BkS} (h : BkFine b) : (beginB d b).2.1.base = b.base ∧ (beginB d b).2.1.many = b.many ∧ BkFine (beginB d b).2.1 := by
  have hc : BkFine { b with opn := false } := ⟨h.pn, h.s, h.m, fun e => (by cases e)⟩
  unfold beginB
  split
  · exact ⟨rfl, rfl, hc⟩
  · split
    · exact ⟨rfl, rfl, hc⟩
    · split
      · split
        · exact ⟨rfl, rfl, ⟨Nat.zero_le _, by show 4294967295 < 4294967296; decide, Nat.zero_le _, fun _ => rfl⟩⟩
        · exact ⟨rfl, rfl, hc⟩
      · exact ⟨rfl, rfl, hc⟩
theorem putL_boundsS : ∀ (l : List Nat) (d : Dev) (b : BkS), (∀ y ∈ l, y < 4294967296) → b.s < 4294967296 → (putL d b l).2.1.pn ≤ b.pn + l.length ∧ (putL d b l).2.1.s < 4294967296 ∧ (putL d b l).2.1.m ≤ b.m + 4 * l.length
  | [], d, b, _, hs => ⟨Nat.le_refl _, hs, Nat.le_refl _⟩
  | x :: l, d, b, hl, hs => by
    rw [putL]
    by_cases hp : (progS d ((b.base + 2 + b.pn / d.nw : Nat) : Int) ((b.pn % d.nw : Nat) : Int) x).2 = 0
    · rw [if_pos hp]
      obtain ⟨k1, k2, k3⟩ := putL_boundsS l (progS d ((b.base + 2 + b.pn / d.nw : Nat) : Int) ((b.pn % d.nw : Nat) : Int) x).1 { b with pn := b.pn + 1, s := wordC b.s x, m := b.m + 4 } (fun y hy => hl y (by simp [hy])) (wordC_lt hs (hl x (by simp)))
      refine ⟨Nat.le_trans k1 ?_, k2, Nat.le_trans k3 ?_⟩
      · show b.pn + 1 + l.length ≤ _; rw [List.length_cons]; omega
      · show b.m + 4 + 4 * l.length ≤ _; rw [List.length_cons]; omega
    · rw [if_neg hp]
      exact ⟨by show b.pn ≤ _; omega, hs, by show b.m ≤ _; omega⟩
theorem put_fine {d : Dev} {b : BkS} (h : BkFine b) {l : List Nat} (hl : ∀ y ∈ l, y < 4294967296) : (putB d b l).2.1.base = b.base ∧ (putB d b l).2.1.many = b.many ∧ BkFine (putB d b l).2.1 := by
  unfold putB
  by_cases ho : b.opn = false
  · rw [if_pos ho]; exact ⟨rfl, rfl, h⟩
  · rw [if_neg ho]
    have ht : b.opn = true := by cases hx : b.opn <;> simp_all
    by_cases hc : (roomB d b : Int) - (b.pn : Int) < (l.length : Int)
    · rw [if_pos hc]; exact ⟨rfl, rfl, h⟩
    · rw [if_neg hc]
      have hr : roomB d b ≤ 4096 := Nat.min_le_right _ _
      obtain ⟨k1, k2, k3, k4⟩ := putL_shape l d b
      obtain ⟨t1, t2, t3⟩ := putL_boundsS l d b hl h.s
      have hm4 := h.m4 ht
      refine ⟨k1, k2, ⟨by omega, t2, by omega, fun e => ?_⟩⟩
      by_cases he : (putL d b l).2.2 = 0
      · rw [k3 he]
        show b.m + l.length * 4 = 4 * (b.pn + l.length)
        omega
      · rw [k4 he] at e
        cases e
theorem commit_fine {d : Dev} {b : BkS} (h : BkFine b) (q : Nat) : (commitB d b q).2.1.base = b.base ∧ (commitB d b q).2.1.many = b.many ∧ BkFine (commitB d b q).2.1 := by
  have hc : BkFine { b with opn := false } := ⟨h.pn, h.s, h.m, fun e => (by cases e)⟩
  unfold commitB
  split
  · exact ⟨rfl, rfl, h⟩
  · split
    · exact ⟨rfl, rfl, hc⟩
    · exact ⟨rfl, rfl, hc⟩
/-- What a call of a store leaves. -/
def RetSr (w : World) (v : StW) (s : StS) (n : Int) (e : Ending) (w' : World) : Prop := e = .returned (.int .i64 n) ∧ SrAt w' v s ∧ Keep v.all w w'
theorem othI_lt {s : StS} (ho : SrOk s) (h : othE s = 0) : othI s < 2 := by
  have := (othE_ok h).2.2
  have := ho.run
  unfold othI
  omega
def beginSr (s : StS) : StS × Int := if othE s = 0 then (s.put (othI s) (beginB s.d (s.bk (othI s))).1 (beginB s.d (s.bk (othI s))).2.1, (beginB s.d (s.bk (othI s))).2.2) else (s, othE s)
def putSr (s : StS) (l : List Nat) : StS × Int := if othE s = 0 then (s.put (othI s) (putB s.d (s.bk (othI s)) l).1 (putB s.d (s.bk (othI s)) l).2.1, (putB s.d (s.bk (othI s)) l).2.2) else (s, othE s)
theorem beginSr_ok {s : StS} (ho : SrOk s) : SrOk (beginSr s).1 := by
  unfold beginSr
  split
  · rename_i h
    obtain ⟨a1, a2, a3⟩ := begin_fine (d := s.d) (ho.fine (othI s))
    obtain ⟨b1, b2⟩ := beginB_ok ho.ok (s.bk (othI s))
    exact ho.put (othI_lt ho h) b1 b2 a1 a2 a3
  · exact ho
theorem putSr_ok {s : StS} (ho : SrOk s) {l : List Nat} (hl : ∀ y ∈ l, y < 4294967296) : SrOk (putSr s l).1 := by
  unfold putSr
  split
  · rename_i h
    obtain ⟨a1, a2, a3⟩ := put_fine (d := s.d) (ho.fine (othI s)) hl
    obtain ⟨b1, b2⟩ := putB_ok ho.ok (s.bk (othI s)) hl
    exact ho.put (othI_lt ho h) b1 b2 a1 a2 a3
  · exact ho

section
variable (v : StW) (s : StS) (w : World)
set_option maxRecDepth 100000 in
set_option maxHeartbeats 1000000 in
theorem sbegin_any (hs : SrAt w v s) (ho : SrOk s) : Calls Try.prog 48 #[.pointer (some ⟨v.gs, 0, none⟩)] w (RetSr w v (beginSr s).1 (beginSr s).2) := by
  have HOT := Lib.hid (sother_any v s w hs ho)
  have HS := Lib.hid hs
  have HO := Lib.hid ho
  have HBS : Hid (beginSr s = if othE s = 0 then (s.put (othI s) (beginB s.d (s.bk (othI s))).1 (beginB s.d (s.bk (othI s))).2.1, (beginB s.d (s.bk (othI s))).2.2) else (s, othE s)) := show _ = _ from rfl
  have HPP : Hid (othP v s = if othE s = 0 then .pointer (some ⟨v.gb (othI s), 0, none⟩) else .pointer none) := show _ = _ from rfl
  generalize beginSr s = res at *
  clear hs ho
  by_cases h0 : othE s = 0
  · have hi2 := othI_lt HO.out h0
    have HB := fun W (k : Keep [] w W) => Lib.hid (bbegin_any (v.gb (othI s)) v.g v.b1 v.b2 s.d (s.bk (othI s)) W ((HS.out.keep0 k).bank _) (HS.out.keep0 k).dev HO.out.ok (HO.out.bk hi2))
    have HR : Hid (res = (s.put (othI s) (beginB s.d (s.bk (othI s))).1 (beginB s.d (s.bk (othI s))).2.1, (beginB s.d (s.bk (othI s))).2.2)) := by show _ = _; rw [HBS.out, if_pos h0]
    rw [h0, if_pos rfl] at HPP
    rw [HPP.out, h0] at HOT
    clear HBS HPP h0
    generalize othI s = i at *
    generalize beginB s.d (s.bk i) = r at *
    obtain ⟨d', b', n⟩ := r
    dsimp only at HB HR
    go_enter Try.func48, Try.ntmps48
    go_wp2_with fail
    refine HOT.out.mono ?_
    rintro e w1 ⟨rfl, k1⟩
    clear HOT
    go_wp2_with fail
    refine (HB w1 k1).out.mono ?_
    rintro e w2 ⟨rfl, l2⟩
    clear HB
    go_wp2_with fail
    go_ret
    rw [HR.out]
    obtain ⟨h1, h2⟩ := (HS.out.keep0 k1).call hi2 l2
    exact ⟨rfl, h1, Keep.trans (k1.mono (by simp)) h2 (fun y hy _ => hy)⟩
  · have HR : Hid (res = (s, othE s)) := by show _ = _; rw [HBS.out, if_neg h0]
    rw [if_neg h0] at HPP
    rw [HPP.out] at HOT
    clear HBS HPP
    generalize othE s = oe at *
    have q0 : (oe == 0) = false := beq_eq_false_iff_ne.2 h0
    have q1 : (oe = 0) = False := eq_false h0
    go_enter Try.func48, Try.ntmps48
    go_wp2_with fail
    refine HOT.out.mono ?_
    rintro e w1 ⟨rfl, k1⟩
    clear HOT
    go_wp2_with fail
    go_ret
    rw [HR.out]
    exact ⟨rfl, HS.out.keep0 k1, k1.mono (by simp)⟩
set_option maxRecDepth 100000 in
set_option maxHeartbeats 1000000 in
theorem sput_any (A : Option Addr) (n c : Nat) (l : List Nat) (hs : SrAt w v s) (ho : SrOk s) (hl : l.length = n) (h32 : ∀ y ∈ l, y < 4294967296) (hr : Reads w 1 A n (wordsV l)) (hoff : 0 < n → Off v.all A) (hn : n ≤ 1000000) :
    Calls Try.prog 57 #[.pointer (some ⟨v.gs, 0, none⟩), .slice A n c] w (RetSr w v (putSr s l).1 (putSr s l).2) := by
  have HOT := Lib.hid (sother_any v s w hs ho)
  have HS := Lib.hid hs
  have HO := Lib.hid ho
  have HBS : Hid (putSr s l = if othE s = 0 then (s.put (othI s) (putB s.d (s.bk (othI s)) l).1 (putB s.d (s.bk (othI s)) l).2.1, (putB s.d (s.bk (othI s)) l).2.2) else (s, othE s)) := show _ = _ from rfl
  have HPP : Hid (othP v s = if othE s = 0 then .pointer (some ⟨v.gb (othI s), 0, none⟩) else .pointer none) := show _ = _ from rfl
  generalize putSr s l = res at *
  clear hs ho
  by_cases h0 : othE s = 0
  · have hi2 := othI_lt HO.out h0
    have HB := fun W (k : Keep [] w W) => Lib.hid (bput_any (v.gb (othI s)) v.g v.b1 v.b2 s.d (s.bk (othI s)) W ((HS.out.keep0 k).bank _) (HS.out.keep0 k).dev HO.out.ok (HO.out.bk hi2) (by have := (HO.out.fine (othI s)).pn; omega) (HO.out.fine (othI s)).s (by have := (HO.out.fine (othI s)).m; omega) A n c l hl h32 (hr.keep0 k) (fun hn0 ad ha => by
      have hm := hoff hn0 ad ha
      unfold StW.all at hm
      simp only [List.mem_cons, List.not_mem_nil, or_false, not_or] at hm
      refine ⟨?_, hm.2.2.2.1, hm.2.2.2.2.1, hm.2.2.2.2.2⟩
      unfold StW.gb
      split
      · exact hm.2.1
      · exact hm.2.2.1) (by omega))
    have HR : Hid (res = (s.put (othI s) (putB s.d (s.bk (othI s)) l).1 (putB s.d (s.bk (othI s)) l).2.1, (putB s.d (s.bk (othI s)) l).2.2)) := by show _ = _; rw [HBS.out, if_pos h0]
    rw [h0, if_pos rfl] at HPP
    rw [HPP.out, h0] at HOT
    clear HBS HPP h0 hr hoff
    generalize othI s = i at *
    generalize putB s.d (s.bk i) l = r at *
    obtain ⟨d', b', m⟩ := r
    dsimp only at HB HR
    go_enter Try.func57, Try.ntmps57
    go_wp2_with fail
    refine HOT.out.mono ?_
    rintro e w1 ⟨rfl, k1⟩
    clear HOT
    go_wp2_with fail
    refine (HB w1 k1).out.mono ?_
    rintro e w2 ⟨rfl, l2⟩
    clear HB
    go_wp2_with fail
    go_ret
    rw [HR.out]
    obtain ⟨h1, h2⟩ := (HS.out.keep0 k1).call hi2 l2
    exact ⟨rfl, h1, Keep.trans (k1.mono (by simp)) h2 (fun y hy _ => hy)⟩
  · have HR : Hid (res = (s, othE s)) := by show _ = _; rw [HBS.out, if_neg h0]
    rw [if_neg h0] at HPP
    rw [HPP.out] at HOT
    clear HBS HPP hr hoff
    generalize othE s = oe at *
    have q0 : (oe == 0) = false := beq_eq_false_iff_ne.2 h0
    have q1 : (oe = 0) = False := eq_false h0
    go_enter Try.func57, Try.ntmps57
    go_wp2_with fail
    refine HOT.out.mono ?_
    rintro e w1 ⟨rfl, k1⟩
    clear HOT
    go_wp2_with fail
    go_ret
    rw [HR.out]
    exact ⟨rfl, HS.out.keep0 k1, k1.mono (by simp)⟩
end
end Go.Proofs.Yteanpgkonhdbpaa

namespace Go.Proofs.Yteanpgkonhdbpaa
open Go.RowKit

structure Cnd where
  bank : Nat
  seq : Nat
  trial : Bool
  words : List Nat
def cndV (c : Cnd) (A : Option Addr) (cap : Nat) : List Value := [.int .i64 (c.bank : Int), .int .u32 (c.seq : Int), .bool c.trial, .slice A c.words.length cap]
theorem agg_cnd : AggOf Try.prog 107 4 := ⟨by kernel_rfl, by kernel_rfl⟩
abbrev zeroCnd : Array Value := #[.int .i64 0, .int .u32 0, .bool false, .slice none 0 0]
def candS (s : StS) (i : Nat) : Option Cnd :=
  match imageB s.d (s.bk i) with
  | none => none
  | some l => if (stateB s.d (s.bk i)).conf = false ∧ 3 ≤ (stateB s.d (s.bk i)).trials then none else some ⟨i, (stateB s.d (s.bk i)).seq, !(stateB s.d (s.bk i)).conf, l⟩
def RetCnd (w : World) (r : Option Cnd) (e : Ending) (w' : World) : Prop :=
  match r with
  | none => e = .returned (.tuple #[.agg zeroCnd, .bool false]) ∧ Keep [] w w'
  | some c => ∃ A cap, e = .returned (.tuple #[.agg (cndV c A cap).toArray, .bool true]) ∧ w'.ownsRow w.heap.size 33 1 (.slice A c.words.length cap) c.words.length (wordsV c.words) ∧ Keep [] w w'
section
variable {P : Program} {ops : Array Oper} {rest : List Oper} {o : Oper} {a : Act} {Q : Exit → Act → World → Prop} {w : World}
theorem wpList_runsS (hgd : o.guard = none) {v : Value} {w' : World} (he : (execOp a.eval o).run P w = .ok (.value v) w') (h : wpList P ops Q rest (a.put o.dst v) w') : wpList P ops Q (o :: rest) a w := by
  refine wpList_plain hgd fun K hK => ?_
  unfold Oper.wp
  rw [he]
  exact hK _ _ h
end
set_option maxRecDepth 100000 in
theorem run_build_cnd (i q : Nat) (t : Bool) (l : List Nat) (A : Option Addr) (cap : Nat) (w : World) :
    (Instr.build 107 #[(0, .int .i64 (i : Int)), (1, .int .u32 (q : Int)), (2, .bool t), (3, .slice A l.length cap)]).run Try.prog w = .ok (.agg (cndV ⟨i, q, t, l⟩ A cap).toArray) w := by
  kernel_rfl
set_option maxRecDepth 100000 in
theorem run_build_cnd0 (w : World) : (Instr.build 107 #[]).run Try.prog w = .ok (.agg zeroCnd) w := by
  kernel_rfl

section
variable (v : StW) (s : StS) (w : World)
set_option maxRecDepth 100000 in
set_option maxHeartbeats 2000000 in
theorem scand_any (i : Nat) (hi : i < 2) (hs : SrAt w v s) (ho : SrOk s) : Calls Try.prog 90 #[.pointer (some ⟨v.gs, 0, none⟩), .int .i64 (i : Int)] w (RetCnd w (candS s i)) := by
  have HCS : Hid (candS s i = match imageB s.d (s.bk i) with
    | none => none
    | some l => if (stateB s.d (s.bk i)).conf = false ∧ 3 ≤ (stateB s.d (s.bk i)).trials then none else some ⟨i, (stateB s.d (s.bk i)).seq, !(stateB s.d (s.bk i)).conf, l⟩) := show _ = _ from rfl
  have HIM := fun W (k : Keep [] w W) => Lib.hid (bimage_any (v.gb i) v.g v.b1 v.b2 s.d (s.bk i) W ((hs.keep0 k).bank _) (hs.keep0 k).dev ho.ok (ho.bk hi))
  have HST := fun W (k : Keep [] w W) => Lib.hid (bstate_any (v.gb i) v.g v.b1 v.b2 s.d (s.bk i) W ((hs.keep0 k).bank _) (hs.keep0 k).dev ho.ok (ho.bk hi))
  have b0 : Blk (w.alloc (.cells zeroCnd 107)) w.heap.size 107 zeroCnd := Blk.new _ _ _
  have k0 : Keep [] w (w.alloc (.cells zeroCnd 107)) := (Keep.refl [] w).alloc _
  have c1 := (hs.keep0 k0).cellB hi
  have hhs : (stateB s.d (s.bk i)).trials ≤ 3 := by
    unfold stateB
    split
    · exact headH_trials _
    · exact headH_trials _
  have HB0 := Lib.hid b0
  have HK0 := Lib.hid k0
  have q1 : (0 : Int) ≤ (i : Int) := by omega
  have q2 : (i : Int) < 2 := by omega
  have hAS : Hid (AggOf Try.prog 70 6) := ⟨by kernel_rfl, by kernel_rfl⟩
  generalize stateB s.d (s.bk i) = h at *
  generalize imageB s.d (s.bk i) = im at *
  generalize candS s i = res at *
  generalize v.gb i = gbi at *
  clear b0 k0 hs ho
  go_enter Try.func90, Try.ntmps90
  go_upto_region 1 with fail
  generalize w.alloc (.cells zeroCnd 107) = W at *
  have hz0 : w.heap.size < W.heap.size := HB0.out.lt
  go_wp2_with fail
  refine (HIM W HK0.out).out.mono ?_
  intro e w2 h2
  obtain ⟨Al, cl, hx, hrow, k2⟩ : ∃ Al cl, e = .returned (.tuple #[.slice Al (im.getD []).length cl, .bool im.isSome]) ∧ w2.ownsRow W.heap.size 33 1 (.slice Al (im.getD []).length cl) (im.getD []).length (wordsV (im.getD [])) ∧ Keep [] W w2 := by
    cases im with
    | none => exact ⟨none, 0, h2.1, ⟨by simp [wordsV], .inl ⟨rfl, rfl⟩⟩, h2.2⟩
    | some l => exact h2
  subst hx
  have HROW := Lib.hid hrow
  have HK2 := Lib.hid (HK0.out.then k2)
  have HB2 := Lib.hid (HB0.out.keep0 k2)
  clear h2 hrow k2 HIM c1
  go_wp2_with fail
  refine (HST w2 HK2.out).out.mono ?_
  rintro e w3 ⟨rfl, k3⟩
  clear HST
  go_wp2_with (refine stop_store 70 (.tmp 9) (.tmp 22) rfl ?_)
  constructor
  refine wpList_store_all rfl 70 (.tmp 9) (.tmp 22) rfl rfl rfl (t := 70) (cs := #[.int .u32 0, .int .u32 0, .int .u32 0, .bool false, .bool false, .int .i64 0]) (vs := hdCells h) hAS.out.2 (Blk.new _ _ _) (by simp [Value.oneCell']) rfl ?_
  intro w4 d4 k4
  have K4 : Keep [] w2 w4 := k3.then (((Keep.refl [] w3).alloc _).trans k4 (fun y hy hl => by simp only [List.mem_cons, List.not_mem_nil, or_false] at hy; omega))
  have HK4 := Lib.hid (HK2.out.then K4)
  have HB4 := Lib.hid (HB2.out.keep0 K4)
  have HROW4 := Lib.hid (own_keep0 HROW.out K4)
  have f0 : w4.cell? ⟨w3.heap.size, 0, none⟩ = some (.int .u32 (h.seq : Int)) := d4.cell 0
  have f4 : w4.cell? ⟨w3.heap.size, 4, none⟩ = some (.bool h.conf) := d4.cell 4
  have f5 : w4.cell? ⟨w3.heap.size, 5, none⟩ = some (.int .i64 (h.trials : Int)) := d4.cell 5
  generalize w3.heap.size = B9 at *
  clear d4 k4 k3 K4 HROW HB2 HB0
  have HF0 : ∀ w9, Keep [w.heap.size] w4 w9 → Keep [] w w9 := fun w9 k9 => HK4.out.trans k9 (fun y hy hl => by simp only [List.mem_cons, List.not_mem_nil, or_false] at hy; omega)
  replace HF0 := Lib.hid HF0
  cases him : im with
  | none =>
    have HR : Hid (res = none) := by show _ = _; rw [HCS.out, him]
    clear HCS
    go_wp2_with (refine stop_at 35 rfl ?_)
    constructor
    refine wpList_runsS rfl (v := .agg zeroCnd) (w' := w4) (by
      simp only [execOp, Sem.run_bind, List.map_toArray, List.map_nil]
      change Result.andThen ((Instr.build 107 #[]).run Try.prog w4) _ = _
      rw [run_build_cnd0]
      rfl) ?_
    go_wp2_with (refine wpList_store_all rfl 107 (.tmp 4) (.tmp 35) rfl rfl rfl (t := 107) (cs := zeroCnd) (vs := zeroCnd.toList) agg_cnd.2 ?_ (by simp [Value.oneCell']) rfl ?_; exact HB4.out; intro w6 e6 k6)
    refine bodyPost_ret (results_blk_tmp rfl _ rfl rfl e6 agg_cnd) rfl ?_
    rw [HR.out]
    exact ⟨rfl, HF0.out w6 k6⟩
  | some l =>
    by_cases hbad : h.conf = false ∧ 3 ≤ h.trials
    · have HR : Hid (res = none) := by
        show _ = _
        rw [HCS.out, him]
        show (if h.conf = false ∧ 3 ≤ h.trials then none else _) = _
        rw [if_pos hbad]
      obtain ⟨hc, ht⟩ := hbad
      rw [hc] at f4
      have q3 : decide ((3 : Int) ≤ (h.trials : Int)) = true := decide_eq_true (by omega)
      have q4 : (3 ≤ h.trials) = True := eq_true ht
      clear HCS
      go_upto_region 5 with fail
      go_wp2_with (refine stop_at 35 rfl ?_)
      constructor
      refine wpList_runsS rfl (v := .agg zeroCnd) (w' := w4) (by
        simp only [execOp, Sem.run_bind, List.map_toArray, List.map_nil]
        change Result.andThen ((Instr.build 107 #[]).run Try.prog w4) _ = _
        rw [run_build_cnd0]
        rfl) ?_
      go_wp2_with (refine wpList_store_all rfl 107 (.tmp 4) (.tmp 35) rfl rfl rfl (t := 107) (cs := zeroCnd) (vs := zeroCnd.toList) agg_cnd.2 ?_ (by simp [Value.oneCell']) rfl ?_; exact HB4.out; intro w6 e6 k6)
      refine bodyPost_ret (results_blk_tmp rfl _ rfl rfl e6 agg_cnd) rfl ?_
      rw [HR.out]
      exact ⟨rfl, HF0.out w6 k6⟩
    · have HR : Hid (res = some ⟨i, h.seq, !h.conf, l⟩) := by
        show _ = _
        rw [HCS.out, him]
        show (if h.conf = false ∧ 3 ≤ h.trials then none else _) = _
        rw [if_neg hbad]
      have HROW5 : Hid (w4.ownsRow W.heap.size 33 1 (.slice Al l.length cl) l.length (wordsV l)) := by
        have := HROW4.out
        rw [him] at this
        exact this
      have hcs : (h.conf = true) ∨ (h.conf = false ∧ ¬ 3 ≤ h.trials) := by
        cases hx : h.conf with
        | true => exact .inl rfl
        | false => exact .inr ⟨rfl, fun e => hbad ⟨hx, e⟩⟩
      have q3 : h.conf = false → decide ((3 : Int) ≤ (h.trials : Int)) = false := fun e => decide_eq_false (by rcases hcs with h1 | h1; (rw [h1] at e; cases e); omega)
      have q4 : h.conf = false → (3 ≤ h.trials) = False := fun e => eq_false (by rcases hcs with h1 | h1; (rw [h1] at e; cases e); exact h1.2)
      clear HCS hbad hcs HROW4
      cases hc : h.conf with
      | true =>
        rw [hc] at f4
        have HR2 : Hid (res = some ⟨i, h.seq, false, l⟩) := by show _ = _; rw [HR.out, hc]; rfl
        clear q3 q4 HR
        go_upto_region 6 with fail
        go_wp2_with (refine stop_at 44 rfl ?_)
        constructor
        refine wpList_runsS rfl (v := .agg (cndV ⟨i, h.seq, false, l⟩ Al cl).toArray) (w' := w4) (by
          have hb := run_build_cnd i h.seq false l Al cl w4
          simp only [execOp, Sem.run_bind, List.map_toArray, List.map_cons, List.map_nil]
          change Result.andThen ((Instr.build 107 #[(0, .int .i64 (i : Int)), (1, .int .u32 (h.seq : Int)), (2, .bool false), (3, .slice Al l.length cl)]).run Try.prog w4) _ = _
          rw [hb]
          rfl) ?_
        go_wp2_with (refine wpList_store_all rfl 107 (.tmp 4) (.tmp 44) rfl rfl rfl (t := 107) (cs := zeroCnd) (vs := cndV ⟨i, h.seq, false, l⟩ Al cl) agg_cnd.2 ?_ (by simp [cndV, Value.oneCell']) rfl ?_; exact HB4.out; intro w6 e6 k6)
        refine bodyPost_ret (results_blk_tmp rfl _ rfl rfl e6 agg_cnd) rfl ?_
        rw [HR2.out]
        have hne : ∀ y, (Value.slice Al l.length cl).ownBlock = some y → y ∉ [w.heap.size] := fun y hy => by
          have := (HROW5.out.lt y hy).1
          simp only [List.mem_cons, List.not_mem_nil, or_false]
          omega
        have hrow := own_keep HROW5.out k6 hne
        exact ⟨Al, cl, rfl, own_base hrow (by omega), HF0.out w6 k6⟩
      | false =>
        rw [hc] at f4
        have HR2 : Hid (res = some ⟨i, h.seq, true, l⟩) := by show _ = _; rw [HR.out, hc]; rfl
        have q5 := q3 hc
        have q6 := q4 hc
        clear q3 q4 HR
        go_upto_region 6 with fail
        go_wp2_with (refine stop_at 44 rfl ?_)
        constructor
        refine wpList_runsS rfl (v := .agg (cndV ⟨i, h.seq, true, l⟩ Al cl).toArray) (w' := w4) (by
          have hb := run_build_cnd i h.seq true l Al cl w4
          simp only [execOp, Sem.run_bind, List.map_toArray, List.map_cons, List.map_nil]
          change Result.andThen ((Instr.build 107 #[(0, .int .i64 (i : Int)), (1, .int .u32 (h.seq : Int)), (2, .bool true), (3, .slice Al l.length cl)]).run Try.prog w4) _ = _
          rw [hb]
          rfl) ?_
        go_wp2_with (refine wpList_store_all rfl 107 (.tmp 4) (.tmp 44) rfl rfl rfl (t := 107) (cs := zeroCnd) (vs := cndV ⟨i, h.seq, true, l⟩ Al cl) agg_cnd.2 ?_ (by simp [cndV, Value.oneCell']) rfl ?_; exact HB4.out; intro w6 e6 k6)
        refine bodyPost_ret (results_blk_tmp rfl _ rfl rfl e6 agg_cnd) rfl ?_
        rw [HR2.out]
        have hne : ∀ y, (Value.slice Al l.length cl).ownBlock = some y → y ∉ [w.heap.size] := fun y hy => by
          have := (HROW5.out.lt y hy).1
          simp only [List.mem_cons, List.not_mem_nil, or_false]
          omega
        have hrow := own_keep HROW5.out k6 hne
        exact ⟨Al, cl, rfl, own_base hrow (by omega), HF0.out w6 k6⟩
end
end Go.Proofs.Yteanpgkonhdbpaa
