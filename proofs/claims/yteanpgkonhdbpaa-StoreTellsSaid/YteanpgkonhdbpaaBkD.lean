/- bank.Worn and bank.Begin, walked. Condition: the device is one that may be, the bank one that fits. bank.Begin, walked. Condition: the device is one that may be, the bank one that fits. -/
import Derived.Test.YteanpgkonhdbpaaBkI
namespace Go.Proofs.Yteanpgkonhdbpaa
open Go.RowKit
attribute [local go_sem] Oper.semAt_some

/-- Can a sector not be erased any more? -/
def wornOut (d : Dev) (s : Nat) : Bool := decide (d.lim ≤ wornS d (s : Int))
def wornB (d : Dev) (b : BkS) : Bool := (secOrd b.base b.many).any (wornOut d)

section
variable (gb g b1 b2 : Nat) (d : Dev) (b : BkS) (w : World) (hb : BankAt w gb g b) (hd : DevAt w g b1 b2 d) (ho : d.Ok) (hk : BkOk d b)
include hb hd ho hk
set_option maxRecDepth 100000 in
set_option maxHeartbeats 4000000 in
theorem bworn_any : Calls Try.prog 33 #[.pointer (some ⟨gb, 0, none⟩)] w fun e w' => e = .returned (.bool (wornB d b)) ∧ Keep [] w w' := by
  have hns := ho.ns2
  have hf := hk.fits
  have h3 := hk.three
  have HWB : Hid (wornB d b = (secOrd b.base b.many).any (wornOut d)) := show _ = _ from rfl
  generalize wornB d b = wb at *
  rw [← callsIn_wide (n := 9)]
  refine callsIn_of_wp_marks Try.func33 rfl trivial ?_ rfl
  simp only [Try.ntmps33, List.size_toArray, List.length_cons, List.length_nil, Nat.reduceAdd, Nat.reduceSub, Array.replicate_succ, Array.replicate_zero, List.push_toArray, List.append_toArray, List.nil_append, List.cons_append]
  gi_wp2_with (refine ⟨trivial, ?_⟩; refine (callsIn_wide.2 (sectors_any gb _)).mono ?_; rintro e w' ⟨rfl, rfl⟩)
  obtain ⟨W0, hW0⟩ : ∃ W0, ((w.alloc (.cells #[.pointer (some ⟨gb, 0, none⟩)] 60)).alloc (.cells #[.bool false] 4)).alloc (.cells #[.pointer (some ⟨gb, 0, none⟩)] 60) = W0 := ⟨_, rfl⟩
  have hsz : W0.heap.size = w.heap.size + 3 := by rw [← hW0]; simp
  have K0 : Keep [] w W0 := by rw [← hW0]; exact (((Keep.refl _ w).alloc _).alloc _).alloc _
  have e1 : Blk W0 w.heap.size 60 #[.pointer (some ⟨gb, 0, none⟩)] := by rw [← hW0]; exact ((Blk.new _ _ _).alloc _).alloc _
  have e2 : Blk W0 (w.heap.size + 1) 4 #[.bool false] := by
    rw [← hW0]; have := Blk.new (w.alloc (.cells #[.pointer (some ⟨gb, 0, none⟩)] 60)) 4 #[.bool false]; rw [World.size_alloc] at this; exact this.alloc _
  have e3 : Blk W0 (w.heap.size + 2) 60 #[.pointer (some ⟨gb, 0, none⟩)] := by
    rw [← hW0]; have := Blk.new ((w.alloc (.cells #[.pointer (some ⟨gb, 0, none⟩)] 60)).alloc (.cells #[.bool false] 4)) 60 #[.pointer (some ⟨gb, 0, none⟩)]; rw [World.size_alloc, World.size_alloc] at this; exact this
  simp only [hW0]
  clear hW0
  have hgb := Blk.lt hb
  have HD0 : Hid (DevAt W0 g b1 b2 d) := hd.keep0 K0
  have HB0 : Hid (BankAt W0 gb g b) := hb.keep0 K0
  have HGL : Hid (g ≠ w.heap.size + 1 ∧ b1 ≠ w.heap.size + 1 ∧ b2 ≠ w.heap.size + 1 ∧ gb ≠ w.heap.size + 1) := by have := hd.dev.lt; have := hd.bits.lt; have := hd.worn.lt; refine ⟨?_, ?_, ?_, ?_⟩ <;> omega
  have hseq := sectors1_seq 8 gb g b (w.heap.size + 2) W0 (hb.keep0 K0) e3 h3 (by omega)
  have HO := Lib.hid ho
  clear hb hd hk ho
  refine wpIn_rangeFunc_ownG (F := Fence.wide) (n := 9) (ps := #[6]) rfl (by omega) (gf := 118) (lb := #[.pointer (some ⟨w.heap.size + 2, 0, none⟩)]) rfl trivial (enters_of Try.func118 (by kernel_rfl) rfl)
    hseq.stops Same.trans (Same.turn (by simp; omega)) (Below.refl _ _) (fun _ => rfl)
    (fun pre W => (∀ s ∈ pre, wornOut d s = false) ∧ Blk W (w.heap.size + 1) 4 #[.bool false] ∧ Keep [w.heap.size + 1] W0 W)
    (fun c pre W => c = .ret ∧ (∃ s ∈ pre, wornOut d s = true) ∧ Blk W (w.heap.size + 1) 4 #[.bool true] ∧ Keep [w.heap.size + 1] W0 W)
    ?hI ?hIx ⟨fun s hs => (by cases hs), e2, Keep.refl _ _⟩
    (fun x => { tmps := #[.pointer (some ⟨gb, 0, none⟩), .pointer (some ⟨w.heap.size, 0, none⟩), .pointer (some ⟨w.heap.size + 1, 0, none⟩), .int .i64 (x : Int), .pointer (some ⟨gb, 0, none⟩), .func (.func 118) #[] #[.pointer (some ⟨w.heap.size + 2, 0, none⟩)], .int .i64 (x : Int), undef, undef, undef, undef, undef, undef, undef, undef, undef, undef, undef, undef], defers := [] }) ?assign ?body ?done ?stop
  case hI =>
    rintro pre X Y row ⟨h1, h2, h4⟩ hg hr
    exact ⟨h1, blk_own (β := Unit) _ _ (fun _ => _) () X Y row h2 hg hr, keep_own (β := Unit) (Nat.le_refl _) () X Y row h4 hg hr⟩
  case hIx =>
    rintro c pre X Y row ⟨h1, h3, h2, h4⟩ hg hr
    exact ⟨h1, h3, blk_own (β := Unit) _ _ (fun _ => _) () X Y row h2 hg hr, keep_own (β := Unit) (Nat.le_refl _) () X Y row h4 hg hr⟩
  case assign =>
    intro l x W K hK
    simp only [encNat]
    gi_wp2
    exact hK
  case body =>
    rintro l pre x W ⟨hno, hr, hK⟩ hlt
    have hgl := HGL.out
    have hd1 : DevAt W g b1 b2 d := HD0.out.keep hK (by simp; omega) (by simp; omega) (by simp; omega)
    have hb1 : BankAt W gb g b := Blk.keep HB0.out hK (by simp; omega)
    have eb : Blk W w.heap.size 60 #[.pointer (some ⟨gb, 0, none⟩)] := e1.keep hK (by simp)
    have hF : ∀ W', Keep [] W W' → W'.cell? ⟨w.heap.size, 0, none⟩ = some (.pointer (some ⟨gb, 0, none⟩)) ∧ W'.cell? ⟨gb, 0, none⟩ = some (.pointer (some ⟨g, 0, none⟩)) ∧ True := fun W' k => ⟨(eb.keep0 k).cell 0, (hb1.keep0 k).cells.1, trivial⟩
    have HWO : Hid (∀ W', Keep [] W W' → Calls Try.prog 77 #[.pointer (some ⟨g, 0, none⟩), .int .i64 (x : Int)] W' fun e w' => e = .returned (.int .i64 (wornS d (x : Int) : Int)) ∧ Keep [] W w') := fun W' k => (fworn_any g b1 b2 d (x : Int) W' (hd1.keep0 k) HO.out).mono fun e w' h => ⟨h.1, h.2 ▸ k⟩
    have HLI : Hid (∀ W', Keep [] W W' → Calls Try.prog 78 #[.pointer (some ⟨g, 0, none⟩)] W' fun e w' => e = .returned (.int .i64 d.lim) ∧ Keep [] W w') := fun W' k => (flimit_any g b1 b2 d W' (hd1.keep0 k)).mono fun e w' h => ⟨h.1, h.2 ▸ k⟩
    have HWX : Hid (wornOut d x = decide (d.lim ≤ wornS d (x : Int))) := show _ = _ from rfl
    generalize wornS d (x : Int) = ws at *
    gi_wp2
    refine region_in_flow (Keep [] W) (open_round _) rfl rfl (by kernel_rfl) (Keep.refl _ _).drew ?_
    iterate 5 (refine fl_val (v := ?_) (by rfl) ?_ ?_; rotate_left; (intro w' hS; obtain ⟨f0,f1,f2⟩ := hF w' hS; go_simp; with_reducible rfl); simp only [Act.put, List.setIfInBounds_toArray, List.set_cons_zero, List.set_cons_succ])
    refine fl_call (f := 77) (v := .int .i64 (ws : Int)) (by rfl) rfl (by simp only [List.map_toArray, List.map_cons, List.map_nil]; rfl) Try.func77 (by kernel_rfl) (by kernel_rfl) (fun w' hS => ((HWO.out w' hS))) ?_; simp only [Act.put, List.setIfInBounds_toArray, List.set_cons_zero, List.set_cons_succ]
    iterate 4 (refine fl_val (v := ?_) (by rfl) ?_ ?_; rotate_left; (intro w' hS; obtain ⟨f0,f1,f2⟩ := hF w' hS; go_simp; with_reducible rfl); simp only [Act.put, List.setIfInBounds_toArray, List.set_cons_zero, List.set_cons_succ])
    refine fl_call (f := 78) (v := .int .i64 (d.lim : Int)) (by rfl) rfl (by simp only [List.map_toArray, List.map_cons, List.map_nil]; rfl) Try.func78 (by kernel_rfl) (by kernel_rfl) (fun w' hS => ((HLI.out w' hS))) ?_; simp only [Act.put, List.setIfInBounds_toArray, List.set_cons_zero, List.set_cons_succ]
    (refine fl_val (v := ?_) (by rfl) ?_ ?_; rotate_left; (intro w' hS; obtain ⟨f0,f1,f2⟩ := hF w' hS; go_simp; with_reducible rfl); simp only [Act.put, List.setIfInBounds_toArray, List.set_cons_zero, List.set_cons_succ])
    refine fl_nil ?_
    intro w' hS
    have hr2 := hr.keep0 hS
    have hcr := hr2.cell 0
    have hfr := hr2.frozen 0
    simp at hcr
    clear hF HWO HLI hd1 hb1 eb
    by_cases hge : d.lim ≤ ws
    · have q0 : decide ((d.lim : Int) ≤ (ws : Int)) = true := decide_eq_true (by omega)
      have p0 := eq_true hge
      gi_wp2
      have kst := (hS.mono (G := [w.heap.size + 1]) (by simp)).trans (keep_set w' (w.heap.size + 1) 0 (.bool true)) (fun y hy _ => hy)
      exact ⟨kst.from (fun y hy => .inl (by simp at hy; omega)), rfl, ⟨x, by simp, by rw [HWX.out]; exact decide_eq_true hge⟩, hr2.set_ 0 _, hK.trans kst (by simp)⟩
    · have q0 : decide ((d.lim : Int) ≤ (ws : Int)) = false := decide_eq_false (by omega)
      have p0 := eq_false hge
      gi_wp2
      refine ⟨hS.from (fun y hy => by simp at hy), Same.keep hS (fun y hy => ⟨?_, by simp⟩), fun s hs => ?_, hr2, hK.then hS⟩
      · have := hK.size
        simp only [List.mem_cons, List.not_mem_nil, or_false] at hy
        omega
      · rcases List.mem_append.1 hs with hs | hs
        · exact hno s hs
        · rw [List.mem_singleton] at hs
          subst hs
          rw [HWX.out]
          exact decide_eq_false hge
  case done =>
    rintro D ys W hD rfl ⟨hno, hr, hK⟩ hD2
    have hcr := hr.cell 0
    have hfr := hr.frozen 0
    simp at hcr
    have HP : Hid (wb = false) := by
      show _ = _
      rw [HWB.out, List.any_eq_false]
      intro s hs
      rw [hno s hs]
      decide
    gi_wp2
    have kst := keep_set W (w.heap.size + 1) 0 (.bool false)
    have hD3 := (kst.block D (Array.getElem?_eq_some_iff.1 hD2).1 (by simp; omega)).trans hD2
    refine ⟨by simp, .inl ⟨_, _, rfl, run_takeDeferred hD3, ?_⟩⟩
    have m1 := (blk_putObj (.deferred none) (hr.set_ 0 (.bool false)) hD3 rfl).cell 0
    simp at m1
    exact ⟨.bool false, by simp [results, Try.results33, go_sem, m1], by rw [HP.out],
      ((K0.trans hK (by intro y hy hlt; simp at hy; omega)).trans kst (by intro y hy hlt; simp at hy; omega)).trans (keep_putObj _ D (.deferred none)) (fun y hy hlt => by simp at hy; omega)⟩
  case stop =>
    rintro D c pre W hD hpre ⟨rfl, ⟨s, hs, hw⟩, hr, hK⟩ hD2
    have HP : Hid (wb = true) := by
      show _ = _
      rw [HWB.out, List.any_eq_true]
      exact ⟨s, hpre.subset hs, hw⟩
    gi_wp2
    refine ⟨by simp, .inl ⟨_, _, rfl, run_takeDeferred hD2, ?_⟩⟩
    have m1 := (blk_putObj (.deferred none) hr hD2 rfl).cell 0
    simp at m1
    exact ⟨.bool true, by simp [results, Try.results33, go_sem, m1], by rw [HP.out], (K0.trans hK (by intro y hy hlt; simp at hy; omega)).trans (keep_putObj W D (.deferred none)) (fun y hy hlt => by simp at hy; omega)⟩
end
end Go.Proofs.Yteanpgkonhdbpaa

namespace Go.Proofs.Yteanpgkonhdbpaa
open Go.RowKit
attribute [local go_sem] Oper.semAt_some

def erasesL (d : Dev) : List Nat → Dev × Int
  | [] => (d, 0)
  | s :: l => if (eraseS d (s : Int)).2 = 0 then erasesL (eraseS d (s : Int)).1 l else eraseS d (s : Int)
theorem erasesL_snoc : ∀ (l : List Nat) (d d' : Dev) (x : Nat), erasesL d l = (d', 0) → erasesL d (l ++ [x]) = eraseS d' (x : Int)
  | [], d, d', x, h => by
    have h1 : d = d' := congrArg Prod.fst h
    subst h1
    show (if (eraseS d (x : Int)).2 = 0 then erasesL (eraseS d (x : Int)).1 [] else eraseS d (x : Int)) = _
    split
    · rename_i h0
      show ((eraseS d (x : Int)).1, (0 : Int)) = _
      rw [← h0]
    · rfl
  | s :: l, d, d', x, h => by
    rw [List.cons_append]
    unfold erasesL at h ⊢
    by_cases h0 : (eraseS d (s : Int)).2 = 0
    · rw [if_pos h0] at h ⊢
      exact erasesL_snoc l _ d' x h
    · rw [if_neg h0] at h
      exact absurd (congrArg Prod.snd h) h0
theorem erasesL_stop : ∀ (l r : List Nat) (d d' : Dev) (e : Int), erasesL d l = (d', e) → e ≠ 0 → erasesL d (l ++ r) = (d', e)
  | [], r, d, d', e, h, he => absurd (congrArg Prod.snd h).symm he
  | s :: l, r, d, d', e, h, he => by
    rw [List.cons_append]
    unfold erasesL at h ⊢
    by_cases h0 : (eraseS d (s : Int)).2 = 0
    · rw [if_pos h0] at h ⊢
      exact erasesL_stop l r _ d' e h he
    · rw [if_neg h0] at h ⊢
      exact h
/-- What Begin does. -/
def beginB (d : Dev) (b : BkS) : Dev × BkS × Int :=
  if d.on = false then (d, { b with opn := false }, 63)
  else if wornB d b = true then (d, { b with opn := false }, 62)
  else if (progS d (b.base : Int) 0 0).2 = 0 then
    if (erasesL (progS d (b.base : Int) 0 0).1 (secOrd b.base b.many)).2 = 0 then ((erasesL (progS d (b.base : Int) 0 0).1 (secOrd b.base b.many)).1, { b with opn := true, pn := 0, s := 4294967295, m := 0 }, 0)
    else ((erasesL (progS d (b.base : Int) 0 0).1 (secOrd b.base b.many)).1, { b with opn := false }, (erasesL (progS d (b.base : Int) 0 0).1 (secOrd b.base b.many)).2)
  else ((progS d (b.base : Int) 0 0).1, { b with opn := false }, (progS d (b.base : Int) 0 0).2)
/-- What a bank's call leaves. -/
structure LeftB (w w' : World) (gb g b1 b2 : Nat) (d : Dev) (b : BkS) : Prop where
  dev : DevAt w' g b1 b2 d
  bank : BankAt w' gb g b
  keep : Keep [gb, g, b1, b2] w w'
theorem bank_ne {w : World} {g b1 b2 gb : Nat} {d : Dev} {b : BkS} (hd : DevAt w g b1 b2 d) (hb : BankAt w gb g b) : gb ≠ g ∧ gb ≠ b1 ∧ gb ≠ b2 := ⟨Blk.ne_ hb hd.dev (by decide), Blk.ne_ hb hd.bits (by decide), Blk.ne_ hb hd.worn (by decide)⟩

/-- A struct stored into a block from a cell on. -/
theorem op_store_part {P : Program} {ops : Array Oper} {Q : Exit → Act → World → Prop} {a : Act} {w : World} {K : Act → World → Prop} (i : Nat) {dst : Option Tmp} {op : Op} {tyy : TypeId} {pos : String} {after : Array Edge} {gd : Option (Nat × Bool)} {ty : TypeId} {x y : Operand} {g f t : Nat} {cs : Array Value} {vs : List Value} (hi : ops[i]? = some ⟨dst, op, tyy, pos, after, gd⟩) (hw : Region.wanted ⟨dst, op, tyy, pos, after, gd⟩ (yielded ops a.tmps) = true)
    (ho : op = .store ty x y) (hx : a.eval x = .pointer (some ⟨g, f, none⟩)) (hy : a.eval y = .agg vs.toArray) (hz : (P.info? ty).map (·.size) = some vs.length) (hb : Blk w g t cs) (h1 : ∀ v, v ∈ vs → v.oneCell' = true) (hl : f + vs.length ≤ cs.size)
    (h : ∀ w', Blk w' g t (splice cs f vs) → Keep [g] w w' → K (a.put dst undef) w') : wpOp P ops Q i K a w := by
  refine wpOp_step hi (fun K' hK => ?_)
  rw [if_pos hw]
  obtain ⟨h2, h3⟩ := storeRow_blk vs f hb
  unfold Oper.wp execOp
  simp only [ho, hx, hy, Instr.storeAt, Instr.sureAddr, Sem.run_bind, Sem.run_pure, Result.andThen_ok, run_storeVar_blk f hz hb h1 hl]
  exact hK _ _ (h _ h2 h3)
/-- Within Begin: its two boxes, the device, the bank, the error so far. -/
structure BegAt (w W : World) (gb g b1 b2 : Nat) (d : Dev) (b : BkS) (e : Int) : Prop where
  dev : DevAt W g b1 b2 d
  bank : BankAt W gb g b
  box : Blk W w.heap.size 60 #[.pointer (some ⟨gb, 0, none⟩)]
  err : Blk W (w.heap.size + 1) 25 #[.int .i64 e]
  keep : Keep [gb, g, b1, b2] w W
section
variable {w W W' : World} {gb g b1 b2 : Nat} {d d' : Dev} {b b' : BkS} {e : Int}
theorem BegAt.keep0 (h : BegAt w W gb g b1 b2 d b e) (k : Keep [] W W') : BegAt w W' gb g b1 b2 d b e := ⟨h.dev.keep0 k, h.bank.keep0 k, h.box.keep0 k, h.err.keep0 k, h.keep.then k⟩
theorem BegAt.setErr (h : BegAt w W gb g b1 b2 d b e) (e' : Int) : BegAt w (W.setCell ⟨w.heap.size + 1, 0, none⟩ (.int .i64 e')) gb g b1 b2 d b e' := by
  have hk := keep_set W (w.heap.size + 1) 0 (.int .i64 e')
  have hne : ∀ x t cs, Blk W x t cs → t ≠ 25 → x ∉ [w.heap.size + 1] := fun x t cs hb ht hm => by
    simp only [List.mem_cons, List.not_mem_nil, or_false] at hm
    subst hm
    exact absurd rfl (Blk.ne_ hb h.err ht)
  exact ⟨⟨h.dev.dev.keep hk (hne _ _ _ h.dev.dev (by decide)), h.dev.bits.keep hk (hne _ _ _ h.dev.bits (by decide)), h.dev.worn.keep hk (hne _ _ _ h.dev.worn (by decide))⟩, Blk.keep h.bank hk (hne _ _ _ h.bank (by decide)), h.box.keep hk (hne _ _ _ h.box (by decide)), h.err.set_ 0 _, h.keep.trans hk (fun y hy hl => by simp only [List.mem_cons, List.not_mem_nil, or_false] at hy; omega)⟩
/-- Only the device has changed. -/
theorem BegAt.turn (h : BegAt w W gb g b1 b2 d b e) (hd : DevAt W' g b1 b2 d') (k : Keep [g, b1, b2] W W') : BegAt w W' gb g b1 b2 d' b e := by
  obtain ⟨n1, n2, n3⟩ := bank_ne h.dev h.bank
  have hne : ∀ x t cs, Blk W x t cs → t ≠ 112 → t ≠ 33 → t ≠ 3 → x ∉ [g, b1, b2] := fun x t cs hb h1 h2 h3 hm => by
    simp only [List.mem_cons, List.not_mem_nil, or_false] at hm
    rcases hm with rfl | rfl | rfl
    · exact absurd rfl (Blk.ne_ hb h.dev.dev h1)
    · exact absurd rfl (Blk.ne_ hb h.dev.bits h2)
    · exact absurd rfl (Blk.ne_ hb h.dev.worn h3)
  exact ⟨hd, Blk.keep h.bank k (hne _ _ _ h.bank (by decide) (by decide) (by decide)), h.box.keep k (hne _ _ _ h.box (by decide) (by decide) (by decide)), h.err.keep k (hne _ _ _ h.err (by decide) (by decide) (by decide)), h.keep.trans k (fun y hy _ => by simp only [List.mem_cons, List.not_mem_nil, or_false] at hy ⊢; omega)⟩
theorem BegAt.left (h : BegAt w W gb g b1 b2 d b e) : LeftB w W gb g b1 b2 d b := ⟨h.dev, h.bank, h.keep⟩
theorem BegAt.facts (h : BegAt w W gb g b1 b2 d b e) : W.cell? ⟨w.heap.size, 0, none⟩ = some (.pointer (some ⟨gb, 0, none⟩)) ∧ W.cell? ⟨gb, 0, none⟩ = some (.pointer (some ⟨g, 0, none⟩)) ∧ W.cell? ⟨gb, 1, none⟩ = some (.int .i64 (b.base : Int)) ∧ W.cell? ⟨w.heap.size + 1, 0, none⟩ = some (.int .i64 e) ∧ W.frozen? ⟨w.heap.size + 1, 0, none⟩ = false :=
  ⟨h.box.cell 0, h.bank.cells.1, h.bank.cells.2.1, h.err.cell 0, h.err.frozen 0⟩
end

section
variable (gb g b1 b2 : Nat) (d : Dev) (b : BkS) (w : World) (hb : BankAt w gb g b) (hd : DevAt w g b1 b2 d) (ho : d.Ok) (hk : BkOk d b)
include hb hd ho hk
set_option maxRecDepth 100000 in
set_option maxHeartbeats 8000000 in
theorem bbegin_any : Calls Try.prog 69 #[.pointer (some ⟨gb, 0, none⟩)] w fun e w' => e = .returned (.int .i64 (beginB d b).2.2) ∧ LeftB w w' gb g b1 b2 (beginB d b).1 (beginB d b).2.1 := by
  have hns := ho.ns2
  have hf := hk.fits
  have h3 := hk.three
  obtain ⟨n1, n2, n3⟩ := bank_ne hd hb
  have hgb := Blk.lt hb
  have hg := hd.dev.lt
  have hg1 := hd.bits.lt
  have hg2 := hd.worn.lt
  obtain ⟨W0, hW0⟩ : ∃ W0, (w.alloc (.cells #[.pointer (some ⟨gb, 0, none⟩)] 60)).alloc (.cells #[.int .i64 0] 25) = W0 := ⟨_, rfl⟩
  have K0 : Keep [] w W0 := by rw [← hW0]; exact ((Keep.refl _ w).alloc _).alloc _
  have e1 : Blk W0 w.heap.size 60 #[.pointer (some ⟨gb, 0, none⟩)] := by rw [← hW0]; exact (Blk.new _ _ _).alloc _
  have e2 : Blk W0 (w.heap.size + 1) 25 #[.int .i64 0] := by
    rw [← hW0]; have := Blk.new (w.alloc (.cells #[.pointer (some ⟨gb, 0, none⟩)] 60)) 25 #[.int .i64 0]; rw [World.size_alloc] at this; exact this
  have hsz : W0.heap.size = w.heap.size + 2 := by rw [← hW0]; simp
  have hc1 := e1.cell 0
  simp at hc1
  have hc3 : W0.cell? ⟨gb, 3, none⟩ = some (.bool b.opn) := (hb.keep0 K0).cells.2.2.2.1
  have hf3 := Blk.frozen (hb.keep0 K0) 3
  obtain ⟨W1, hW1⟩ : ∃ W1, W0.setCell ⟨gb, 3, none⟩ (.bool false) = W1 := ⟨_, rfl⟩
  have K01 : Keep [gb] W0 W1 := by rw [← hW1]; exact keep_set _ gb 3 _
  have HB1 : Hid (BankAt W1 gb g { b with opn := false }) := by rw [← hW1]; exact (hb.keep0 K0).set_ 3 (.bool false)
  have HI1 : Hid (BegAt w W1 gb g b1 b2 d { b with opn := false } 0) :=
    ⟨(hd.keep0 K0).keep K01 (by simp; exact fun h => n1 h.symm) (by simp; exact fun h => n2 h.symm) (by simp; exact fun h => n3 h.symm), HB1.out, e1.keep K01 (by simp; omega), e2.keep K01 (by simp; omega), (K0.mono (G := [gb, g, b1, b2]) (by simp)).trans K01 (fun y hy _ => by simp only [List.mem_cons, List.not_mem_nil, or_false] at hy ⊢; exact .inl hy)⟩
  have HW0 := Lib.hid hW0
  have HW1 := Lib.hid hW1
  have hsz1 : W1.heap.size = w.heap.size + 2 := by rw [← hW1]; simpa using hsz
  have hk1 : BkOk d { b with opn := false } := ⟨hk.three, hk.fits, hk.words⟩
  have HON : Hid (Calls Try.prog 21 #[.pointer (some ⟨g, 0, none⟩)] W1 fun e w' => e = .returned (.bool d.on) ∧ W1 = w') := fon_any g b1 b2 d W1 HI1.out.dev
  have HWO : Hid (Calls Try.prog 33 #[.pointer (some ⟨gb, 0, none⟩)] W1 fun e w' => e = .returned (.bool (wornB d b)) ∧ Keep [] W1 w') := bworn_any gb g b1 b2 d { b with opn := false } W1 HB1.out HI1.out.dev ho hk1
  have HO := Lib.hid ho
  obtain ⟨d1, d2, _, d3, d4⟩ := HI1.out.facts
  have HBG : Hid (beginB d b = if d.on = false then (d, { b with opn := false }, 63)
    else if wornB d b = true then (d, { b with opn := false }, 62)
    else if (progS d (b.base : Int) 0 0).2 = 0 then
      if (erasesL (progS d (b.base : Int) 0 0).1 (secOrd b.base b.many)).2 = 0 then ((erasesL (progS d (b.base : Int) 0 0).1 (secOrd b.base b.many)).1, { b with opn := true, pn := 0, s := 4294967295, m := 0 }, 0)
      else ((erasesL (progS d (b.base : Int) 0 0).1 (secOrd b.base b.many)).1, { b with opn := false }, (erasesL (progS d (b.base : Int) 0 0).1 (secOrd b.base b.many)).2)
    else ((progS d (b.base : Int) 0 0).1, { b with opn := false }, (progS d (b.base : Int) 0 0).2)) := show _ = _ from rfl
  generalize beginB d b = bg at *
  clear hb hd ho hk hW0 hW1 hsz K0 e1 e2 K01 n1 n2 n3 hk1 HB1
  rw [← callsIn_wide (n := 9)]
  refine callsIn_of_wp_marks Try.func69 rfl trivial ?_ rfl
  simp only [Try.ntmps69, List.size_toArray, List.length_cons, List.length_nil, Nat.reduceAdd, Nat.reduceSub, Array.replicate_succ, Array.replicate_zero, List.push_toArray, List.append_toArray, List.nil_append, List.cons_append]
  cases hon : d.on with
  | false =>
    rw [hon] at HON
    have HR : Hid (bg = (d, { b with opn := false }, 63)) := by show _ = _; rw [HBG.out, if_pos hon]
    gi_wp2_with (first
      | rw [HW0.out]
      | rw [HW1.out]
      | (refine ⟨trivial, ?_⟩; refine (callsIn_wide.2 HON.out).mono ?_; rintro e w' ⟨rfl, rfl⟩))
    refine leavesM_marksB [] _ List.nodup_nil (fun D hD => absurd hD (by simp)) (fun W' hk => ?_)
    have hz := (HI1.out.setErr 63).keep0 hk
    have m1 : W'.cell? ⟨w.heap.size + 1, 0, none⟩ = some (.int .i64 63) := hz.facts.2.2.2.1
    refine ⟨.int .i64 63, by simp [results, Try.results69, go_sem, m1], ?_⟩
    rw [HR.out]
    exact ⟨rfl, hz.left⟩
  | true =>
    rw [hon] at HON
    cases hwb : wornB d b with
    | true =>
      rw [hwb] at HWO
      have HR : Hid (bg = (d, { b with opn := false }, 62)) := by show _ = _; rw [HBG.out, if_neg (by rw [hon]; decide), if_pos hwb]
      gi_wp2_with (first
        | rw [HW0.out]
        | rw [HW1.out]
        | (refine ⟨trivial, ?_⟩; refine (callsIn_wide.2 HON.out).mono ?_; rintro e w' ⟨rfl, rfl⟩)
        | (refine ⟨trivial, ?_⟩; refine (callsIn_wide.2 HWO.out).mono ?_; rintro e w2 ⟨rfl, k2⟩; obtain ⟨g1, g2, _, g3, g4⟩ := (HI1.out.keep0 k2).facts))
      refine leavesM_marksB [] _ List.nodup_nil (fun D hD => absurd hD (by simp)) (fun W' hk => ?_)
      have hz := ((HI1.out.keep0 k2).setErr 62).keep0 hk
      have m1 : W'.cell? ⟨w.heap.size + 1, 0, none⟩ = some (.int .i64 62) := hz.facts.2.2.2.1
      refine ⟨.int .i64 62, by simp [results, Try.results69, go_sem, m1], ?_⟩
      rw [HR.out]
      exact ⟨rfl, hz.left⟩
    | false =>
      rw [hwb] at HWO
      gi_wp2_with (first
        | rw [HW0.out]
        | rw [HW1.out]
        | (refine ⟨trivial, ?_⟩; refine (callsIn_wide.2 HON.out).mono ?_; rintro e w' ⟨rfl, rfl⟩)
        | (refine ⟨trivial, ?_⟩; refine (callsIn_wide.2 HWO.out).mono ?_; rintro e w2 ⟨rfl, k2⟩))
      have HI2 := Lib.hid (HI1.out.keep0 k2)
      have hz2 : w.heap.size + 2 ≤ w2.heap.size := by have := k2.size; omega
      have hG : ∀ W, Keep [] w2 W → W.cell? ⟨w.heap.size, 0, none⟩ = some (.pointer (some ⟨gb, 0, none⟩)) ∧ W.cell? ⟨gb, 0, none⟩ = some (.pointer (some ⟨g, 0, none⟩)) ∧ W.cell? ⟨gb, 1, none⟩ = some (.int .i64 (b.base : Int)) := fun W k => by
        obtain ⟨g1, g2, g3, _⟩ := (HI2.out.keep0 k).facts
        exact ⟨g1, g2, g3⟩
      have HPR : Hid (∀ W, Keep [] w2 W → Calls Try.prog 67 #[.pointer (some ⟨g, 0, none⟩), .int .i64 (b.base : Int), .int .i64 0, .int .u32 0] W (Leaves W g b1 b2 (progS d (b.base : Int) 0 0).1 (progS d (b.base : Int) 0 0).2)) := fun W k => fprog_any g b1 b2 d (b.base : Int) 0 0 W (HI2.out.keep0 k).dev HO.out (by decide)
      have HOP : Hid ((progS d (b.base : Int) 0 0).1.Ok) := progS_ok HO.out _ _ 0 (by decide)
      obtain ⟨dp, ep, hp⟩ : ∃ dp ep, progS d (b.base : Int) 0 0 = (dp, ep) := ⟨_, _, rfl⟩
      rw [hp] at HPR HOP HBG
      dsimp only at HPR HOP HBG
      rw [if_neg (by rw [hon]; decide), if_neg (by rw [hwb]; decide)] at HBG
      clear hp d1 d2 d3 d4 HON HWO k2 hc1 hc3 hf3
      refine bjB_start 8 (Keep [] w2) open_wide rfl rfl (Keep.refl _ _).drew (fun hS hPan => ?_)
      (refine ap_val (v := ?_) 0 rfl (by kernel_rfl) (by kernel_rfl) (by kernel_rfl) (by kernel_rfl) (by rfl) hPan ?_ hS ?_; rotate_left; (intro w' hSw; obtain ⟨f0,f1,f2⟩ := hG w' hSw; go_simp; try with_reducible rfl); simp only [Act.put, List.setIfInBounds_toArray, List.set_cons_zero, List.set_cons_succ])
      (refine ap_val (v := ?_) 1 rfl (by kernel_rfl) (by kernel_rfl) (by kernel_rfl) (by kernel_rfl) (by rfl) hPan ?_ hS ?_; rotate_left; (intro w' hSw; go_simp; try with_reducible rfl); simp only [Act.put, List.setIfInBounds_toArray, List.set_cons_zero, List.set_cons_succ])
      (refine ap_val (v := ?_) 2 rfl (by kernel_rfl) (by kernel_rfl) (by kernel_rfl) (by kernel_rfl) (by rfl) hPan ?_ hS ?_; rotate_left; (intro w' hSw; go_simp; try with_reducible rfl); simp only [Act.put, List.setIfInBounds_toArray, List.set_cons_zero, List.set_cons_succ])
      (refine ap_val (v := ?_) 3 rfl (by kernel_rfl) (by kernel_rfl) (by kernel_rfl) (by kernel_rfl) (by rfl) hPan ?_ hS ?_; rotate_left; (intro w' hSw; obtain ⟨f0,f1,f2⟩ := hG w' hSw; go_simp; try with_reducible rfl); simp only [Act.put, List.setIfInBounds_toArray, List.set_cons_zero, List.set_cons_succ])
      (refine ap_val (v := ?_) 4 rfl (by kernel_rfl) (by kernel_rfl) (by kernel_rfl) (by kernel_rfl) (by rfl) hPan ?_ hS ?_; rotate_left; (intro w' hSw; obtain ⟨f0,f1,f2⟩ := hG w' hSw; go_simp; try with_reducible rfl); simp only [Act.put, List.setIfInBounds_toArray, List.set_cons_zero, List.set_cons_succ])
      (refine ap_val (v := ?_) 5 rfl (by kernel_rfl) (by kernel_rfl) (by kernel_rfl) (by kernel_rfl) (by rfl) hPan ?_ hS ?_; rotate_left; (intro w' hSw; go_simp; try with_reducible rfl); simp only [Act.put, List.setIfInBounds_toArray, List.set_cons_zero, List.set_cons_succ])
      (refine ap_val (v := ?_) 6 rfl (by kernel_rfl) (by kernel_rfl) (by kernel_rfl) (by kernel_rfl) (by rfl) hPan ?_ hS ?_; rotate_left; (intro w' hSw; go_simp; try with_reducible rfl); simp only [Act.put, List.setIfInBounds_toArray, List.set_cons_zero, List.set_cons_succ])
      (refine ap_val (v := ?_) 7 rfl (by kernel_rfl) (by kernel_rfl) (by kernel_rfl) (by kernel_rfl) (by rfl) hPan ?_ hS ?_; rotate_left; (intro w' hSw; obtain ⟨f0,f1,f2⟩ := hG w' hSw; go_simp; try with_reducible rfl); simp only [Act.put, List.setIfInBounds_toArray, List.set_cons_zero, List.set_cons_succ])
      generalize w2.drew = wd at *
      refine ap_one 8 (by kernel_rfl) ?_
      refine op_call (f := 67) (vs := #[.pointer (some ⟨g, 0, none⟩), .int .i64 (b.base : Int), .int .i64 0, .int .u32 0]) 8 rfl (by kernel_rfl) rfl (by simp only [List.map_toArray, List.map_cons, List.map_nil]; rfl) Try.func67 (by kernel_rfl) (by kernel_rfl) (HPR.out wd hS) ?_
      rintro e w3 ⟨rfl, hd3, k3⟩
      refine ⟨_, rfl, fun h => (by cases h), ?_⟩
      (simp only [Act.put, List.setIfInBounds_toArray, List.set_cons_zero, List.set_cons_succ])
      refine ap_one 9 (by kernel_rfl) ?_
      refine op_run (v := .int .i64 ep) (w' := w3) 9 rfl (by kernel_rfl) (by go_simp) ?_
      refine ⟨fun h => (by cases h), bjB_end (by kernel_rfl) ?_ _⟩
      (simp only [Act.put, List.setIfInBounds_toArray, List.set_cons_zero, List.set_cons_succ])
      have HI3 : Hid (BegAt w w3 gb g b1 b2 dp { b with opn := false } 0) := (HI2.out.keep0 hS).turn hd3 k3
      have hz3 : w.heap.size + 2 ≤ w3.heap.size := by have := hS.size; have := k3.size; omega
      clear hS hPan hG HPR hd3 k3
      obtain ⟨f1, f2, _, f4, f5⟩ := HI3.out.facts
      by_cases hep : ep = 0
      · subst hep
        rw [if_pos rfl] at HBG
        gi_wp2_with (refine ⟨trivial, ?_⟩; refine (callsIn_wide.2 (sectors_any gb _)).mono ?_; rintro e w' ⟨rfl, rfl⟩)
        have E3 := Blk.new w3 60 #[.pointer (some ⟨gb, 0, none⟩)]
        have HI4 := Lib.hid (HI3.out.keep0 ((Keep.refl [] w3).alloc (.cells #[.pointer (some ⟨gb, 0, none⟩)] 60)))
        have hz4 : (w3.alloc (.cells #[.pointer (some ⟨gb, 0, none⟩)] 60)).heap.size = w3.heap.size + 1 := by simp
        generalize w3.alloc (.cells #[.pointer (some ⟨gb, 0, none⟩)] 60) = W4 at *
        generalize w3.heap.size = Bq at *
        have HE3 := Lib.hid E3
        have hseq := sectors1_seq 8 gb g { b with opn := false } Bq W4 HI4.out.bank E3 h3 (by show b.base + b.many ≤ 64; omega)
        have hgw : gb < w.heap.size ∧ g < w.heap.size ∧ b1 < w.heap.size ∧ b2 < w.heap.size := ⟨hgb, hg, hg1, hg2⟩
        clear f1 f2 f4 f5 E3 HI3
        refine wpIn_rangeFunc_ownG (F := Fence.wide) (n := 9) (ps := #[31]) rfl (by omega) (gf := 118) (lb := #[.pointer (some ⟨Bq, 0, none⟩)]) rfl trivial (enters_of Try.func118 (by kernel_rfl) rfl)
          hseq.stops Same.trans (Same.turn (fun x hx => by simp only [List.mem_cons, List.not_mem_nil, or_false] at hx; omega)) (Below.refl _ _) (fun _ => rfl)
          (fun pre W => ∃ d', erasesL dp pre = (d', 0) ∧ d'.Ok ∧ BegAt w W gb g b1 b2 d' { b with opn := false } 0 ∧ Keep [g, b1, b2, w.heap.size + 1] W4 W)
          (fun c pre W => c = .ret ∧ ∃ d' e, erasesL dp pre = (d', e) ∧ e ≠ 0 ∧ BegAt w W gb g b1 b2 d' { b with opn := false } e ∧ Keep [g, b1, b2, w.heap.size + 1] W4 W)
          ?hI ?hIx ⟨dp, rfl, HOP.out, HI4.out, Keep.refl _ _⟩
          (fun x => { tmps := #[.pointer (some ⟨gb, 0, none⟩), .pointer (some ⟨w.heap.size, 0, none⟩), .pointer (some ⟨w.heap.size + 1, 0, none⟩), .int .i64 0, .int .i64 (x : Int), undef, .pointer (some ⟨gb, 0, none⟩), .pointer (some ⟨gb, 0, none⟩), .pointer (some ⟨gb, 3, none⟩), .pointer (some ⟨gb, 0, none⟩), .pointer (some ⟨gb, 0, none⟩), .pointer (some ⟨gb, 0, none⟩), .pointer (some ⟨g, 0, none⟩), .bool true, .bool false, .pointer (some ⟨gb, 0, none⟩), .bool false, .pointer (some ⟨gb, 0, none⟩), .pointer (some ⟨gb, 0, none⟩), .pointer (some ⟨gb, 0, none⟩), .pointer (some ⟨g, 0, none⟩), .pointer (some ⟨gb, 0, none⟩), .pointer (some ⟨gb, 0, none⟩), .pointer (some ⟨gb, 1, none⟩), .int .i64 (b.base : Int), .int .i64 0, .int .i64 0, .bool false, undef, .pointer (some ⟨gb, 0, none⟩), .func (.func 118) #[] #[.pointer (some ⟨Bq, 0, none⟩)], .int .i64 (x : Int), undef, undef, undef, undef, undef, undef, undef, undef, undef, undef, undef, undef, undef, undef, undef, undef, undef, undef, undef], defers := [] }) ?assign ?body ?done ?stop
        case hI =>
          rintro pre X Y row ⟨d', h1, h2, h4, h5⟩ hg hr
          exact ⟨d', h1, h2, ⟨⟨blk_own (β := Unit) _ _ (fun _ => _) () X Y row h4.dev.dev hg hr, blk_own (β := Unit) _ _ (fun _ => _) () X Y row h4.dev.bits hg hr, blk_own (β := Unit) _ _ (fun _ => _) () X Y row h4.dev.worn hg hr⟩, blk_own (β := Unit) _ _ (fun _ => _) () X Y row h4.bank hg hr, blk_own (β := Unit) _ _ (fun _ => _) () X Y row h4.box hg hr, blk_own (β := Unit) _ _ (fun _ => _) () X Y row h4.err hg hr, keep_own (β := Unit) (by omega) () X Y row h4.keep hg hr⟩, keep_own (β := Unit) (Nat.le_refl _) () X Y row h5 hg hr⟩
        case hIx =>
          rintro c pre X Y row ⟨h0, d', e, h1, h2, h4, h5⟩ hg hr
          exact ⟨h0, d', e, h1, h2, ⟨⟨blk_own (β := Unit) _ _ (fun _ => _) () X Y row h4.dev.dev hg hr, blk_own (β := Unit) _ _ (fun _ => _) () X Y row h4.dev.bits hg hr, blk_own (β := Unit) _ _ (fun _ => _) () X Y row h4.dev.worn hg hr⟩, blk_own (β := Unit) _ _ (fun _ => _) () X Y row h4.bank hg hr, blk_own (β := Unit) _ _ (fun _ => _) () X Y row h4.box hg hr, blk_own (β := Unit) _ _ (fun _ => _) () X Y row h4.err hg hr, keep_own (β := Unit) (by omega) () X Y row h4.keep hg hr⟩, keep_own (β := Unit) (Nat.le_refl _) () X Y row h5 hg hr⟩
        case assign =>
          intro l x W K hK
          simp only [encNat]
          gi_wp2
          exact hK
        case body =>
          rintro l pre x W ⟨d', hd', hok, hin, hK⟩ hlt
          obtain ⟨f1, f2, _, f4, f5⟩ := hin.facts
          have HER := Lib.hid (ferase_any g b1 b2 d' (x : Int) W hin.dev hok)
          have HSN := Lib.hid (erasesL_snoc pre dp d' x hd')
          have HOE : Hid ((eraseS d' (x : Int)).1.Ok) := eraseS_ok hok _
          have HIN := Lib.hid hin
          obtain ⟨d5, e5, he5⟩ : ∃ d5 e5, eraseS d' (x : Int) = (d5, e5) := ⟨_, _, rfl⟩
          rw [he5] at HER HSN HOE
          clear he5 hin hd'
          by_cases hz5 : e5 = 0
          · subst hz5
            gi_wp2_with (refine ⟨trivial, ?_⟩; refine (callsIn_wide.2 HER.out).mono ?_; rintro e w5 ⟨rfl, hd5, k5⟩; have HI5 : Hid (BegAt w w5 gb g b1 b2 d5 { b with opn := false } 0) := HIN.out.turn hd5 k5; obtain ⟨f1', f2', _, f4', f5'⟩ := HI5.out.facts)
            have hk5 : Keep [g, b1, b2, w.heap.size + 1] W4 w5 := hK.trans k5 (fun y hy _ => by simp only [List.mem_cons, List.not_mem_nil, or_false] at hy ⊢; omega)
            refine ⟨k5.from (fun y hy => .inl (by simp only [List.mem_cons, List.not_mem_nil, or_false] at hy; omega)), Same.keep k5 (fun y hy => ⟨?_, fun hm => ?_⟩), d5, HSN.out, HOE.out, HI5.out, hk5⟩
            · have := hK.size
              simp only [List.mem_cons, List.not_mem_nil, or_false] at hy
              omega
            · have hn := bank_ne HIN.out.dev HIN.out.bank
              simp only [List.mem_cons, List.not_mem_nil, or_false] at hy hm
              omega
          · have q0 : (e5 == 0) = false := beq_eq_false_iff_ne.2 hz5
            have q1 : (e5 = 0) = False := eq_false hz5
            have q2 : (e5 != 0) = true := bne_iff_ne.2 hz5
            gi_wp2_with (refine ⟨trivial, ?_⟩; refine (callsIn_wide.2 HER.out).mono ?_; rintro e w5 ⟨rfl, hd5, k5⟩; have HI5 : Hid (BegAt w w5 gb g b1 b2 d5 { b with opn := false } 0) := HIN.out.turn hd5 k5; obtain ⟨f1', f2', _, f4', f5'⟩ := HI5.out.facts)
            have hk5 : Keep [g, b1, b2, w.heap.size + 1] W4 w5 := hK.trans k5 (fun y hy _ => by simp only [List.mem_cons, List.not_mem_nil, or_false] at hy ⊢; omega)
            have kst := keep_set w5 (w.heap.size + 1) 0 (.int .i64 e5)
            have k6 : Keep [g, b1, b2, w.heap.size + 1] W (w5.setCell ⟨w.heap.size + 1, 0, none⟩ (.int .i64 e5)) := (k5.mono (by simp)).trans kst (fun y hy _ => by simp only [List.mem_cons, List.not_mem_nil, or_false] at hy ⊢; omega)
            exact ⟨k6.from (fun y hy => .inl (by simp only [List.mem_cons, List.not_mem_nil, or_false] at hy; omega)), rfl, d5, e5, HSN.out, hz5, HI5.out.setErr e5, hk5.trans kst (fun y hy _ => by simp only [List.mem_cons, List.not_mem_nil, or_false] at hy ⊢; omega)⟩
        case done =>
          rintro D ys W hD rfl ⟨d', hd', hok, hin, hK⟩ hD2
          have HR : Hid (bg = (d', { b with opn := true, pn := 0, s := 4294967295, m := 0 }, 0)) := by
            show _ = _
            rw [HBG.out]
            have hd2 : erasesL dp (secOrd b.base b.many) = (d', 0) := hd'
            rw [hd2]
            exact if_pos rfl
          have HIN := Lib.hid hin
          have HDW := Lib.hid hD2
          have hDl : D < W.heap.size := (Array.getElem?_eq_some_iff.1 hD2).1
          have hKs := hK.size
          have hG2 : ∀ W', Keep [gb] W W' → W'.cell? ⟨w.heap.size, 0, none⟩ = some (.pointer (some ⟨gb, 0, none⟩)) ∧ True ∧ True := fun W' k => ⟨(hin.box.keep k (by simp; omega)).cell 0, trivial, trivial⟩
          have hAS : AggOf Try.prog 126 2 := ⟨by kernel_rfl, by kernel_rfl⟩
          clear hd' hD2 hin
          gi_wp2
          refine bjB_start 12 (Keep [gb] W) open_wide rfl rfl ((Keep.refl [] W).drew.mono (by simp)) (fun hS hPan => ?_)
          (refine ap_val (v := ?_) 0 rfl (by kernel_rfl) (by kernel_rfl) (by kernel_rfl) (by kernel_rfl) (by rfl) hPan ?_ hS ?_; rotate_left; (intro w' hSw; obtain ⟨f0,f1,f2⟩ := hG2 w' hSw; go_simp; try with_reducible rfl); simp only [Act.put, List.setIfInBounds_toArray, List.set_cons_zero, List.set_cons_succ])
          (refine ap_val (v := ?_) 1 rfl (by kernel_rfl) (by kernel_rfl) (by kernel_rfl) (by kernel_rfl) (by rfl) hPan ?_ hS ?_; rotate_left; (intro w' hSw; obtain ⟨f0,f1,f2⟩ := hG2 w' hSw; go_simp; try with_reducible rfl); simp only [Act.put, List.setIfInBounds_toArray, List.set_cons_zero, List.set_cons_succ])
          (refine ap_val (v := ?_) 2 rfl (by kernel_rfl) (by kernel_rfl) (by kernel_rfl) (by kernel_rfl) (by rfl) hPan ?_ hS ?_; rotate_left; (intro w' hSw; obtain ⟨f0,f1,f2⟩ := hG2 w' hSw; go_simp; try with_reducible rfl); simp only [Act.put, List.setIfInBounds_toArray, List.set_cons_zero, List.set_cons_succ])
          (refine ap_val (v := ?_) 3 rfl (by kernel_rfl) (by kernel_rfl) (by kernel_rfl) (by kernel_rfl) (by rfl) hPan ?_ hS ?_; rotate_left; (intro w' hSw; go_simp; try with_reducible rfl); simp only [Act.put, List.setIfInBounds_toArray, List.set_cons_zero, List.set_cons_succ])
          (refine ap_val (v := ?_) 4 rfl (by kernel_rfl) (by kernel_rfl) (by kernel_rfl) (by kernel_rfl) (by rfl) hPan ?_ hS ?_; rotate_left; (intro w' hSw; go_simp; try with_reducible rfl); simp only [Act.put, List.setIfInBounds_toArray, List.set_cons_zero, List.set_cons_succ])
          (refine ap_val (v := ?_) 5 rfl (by kernel_rfl) (by kernel_rfl) (by kernel_rfl) (by kernel_rfl) (by rfl) hPan ?_ hS ?_; rotate_left; (intro w' hSw; go_simp; try with_reducible rfl); simp only [Act.put, List.setIfInBounds_toArray, List.set_cons_zero, List.set_cons_succ])
          have hb0 : BankAt W.drew gb g { b with opn := false } := HIN.out.bank
          generalize W.drew = wd at *
          refine ap_one 6 (by kernel_rfl) ?_
          refine op_store1 (v := .bool true) 6 rfl (by kernel_rfl) rfl rfl rfl (by kernel_rfl) rfl rfl (Blk.cell hb0 3) (Blk.frozen hb0 3) ?_
          have hb1' := Blk.set_ hb0 3 (.bool true)
          have hS1 : Keep [gb] W (wd.setCell ⟨gb, 3, none⟩ (.bool true)) := hS.trans (keep_set _ gb 3 _) (fun y hy _ => hy)
          refine ⟨fun _ => hS1, ?_⟩
          (simp only [Act.put])
          generalize wd.setCell ⟨gb, 3, none⟩ (.bool true) = we at *
          clear hS
          have hS := hS1
          clear hS1
          (refine ap_val (v := ?_) 7 rfl (by kernel_rfl) (by kernel_rfl) (by kernel_rfl) (by kernel_rfl) (by rfl) hPan ?_ hS ?_; rotate_left; (intro w' hSw; go_simp; try with_reducible rfl); simp only [Act.put, List.setIfInBounds_toArray, List.set_cons_zero, List.set_cons_succ])
          (refine ap_val (v := ?_) 8 rfl (by kernel_rfl) (by kernel_rfl) (by kernel_rfl) (by kernel_rfl) (by rfl) hPan ?_ hS ?_; rotate_left; (intro w' hSw; go_simp; try with_reducible rfl); simp only [Act.put, List.setIfInBounds_toArray, List.set_cons_zero, List.set_cons_succ])
          refine ap_one 9 (by kernel_rfl) ?_
          refine op_store1 (v := .int .i64 0) 9 rfl (by kernel_rfl) rfl rfl rfl (by kernel_rfl) rfl rfl (Blk.cell hb1' 4) (Blk.frozen hb1' 4) ?_
          have hb2' := Blk.set_ hb1' 4 (.int .i64 0)
          have hS1 : Keep [gb] W (we.setCell ⟨gb, 4, none⟩ (.int .i64 0)) := hS.trans (keep_set _ gb 4 _) (fun y hy _ => hy)
          refine ⟨fun _ => hS1, ?_⟩
          (simp only [Act.put])
          generalize we.setCell ⟨gb, 4, none⟩ (.int .i64 0) = wf at *
          clear hS
          have hS := hS1
          clear hS1
          (refine ap_val (v := ?_) 10 rfl (by kernel_rfl) (by kernel_rfl) (by kernel_rfl) (by kernel_rfl) (by rfl) hPan ?_ hS ?_; rotate_left; (intro w' hSw; go_simp; try with_reducible rfl); simp only [Act.put, List.setIfInBounds_toArray, List.set_cons_zero, List.set_cons_succ])
          (refine ap_val (v := ?_) 11 rfl (by kernel_rfl) (by kernel_rfl) (by kernel_rfl) (by kernel_rfl) (by rfl) hPan ?_ hS ?_; rotate_left; (intro w' hSw; go_simp; try with_reducible rfl); simp only [Act.put, List.setIfInBounds_toArray, List.set_cons_zero, List.set_cons_succ])
          refine ap_one 12 (by kernel_rfl) ?_
          refine op_store_part (f := 5) (vs := [.int .u32 0, .int .i64 0]) 12 rfl (by kernel_rfl) rfl rfl rfl hAS.2 hb2' (by simp [Value.oneCell']) (by show 7 ≤ 7; decide) ?_
          intro wg hb3' k3'
          refine ⟨fun h => (by cases h), bjB_end (by kernel_rfl) ?_ _⟩
          (simp only [Act.put])
          have KG : Keep [gb] W wg := hS.trans k3' (fun y hy _ => hy)
          have hbF : BankAt wg gb g { b with opn := true, pn := 0, s := 4294967295, m := 0 } := by
            have h0 : cplJ 4294967295 = 0 := by decide
            unfold BankAt bkCells
            dsimp only
            rw [h0]
            exact hb3'
          have hno := bank_ne HIN.out.dev HIN.out.bank
          have HIF : Hid (BegAt w wg gb g b1 b2 d' { b with opn := true, pn := 0, s := 4294967295, m := 0 } 0) :=
            ⟨HIN.out.dev.keep KG (by simp; exact fun h => hno.1 h.symm) (by simp; exact fun h => hno.2.1 h.symm) (by simp; exact fun h => hno.2.2 h.symm), hbF, HIN.out.box.keep KG (by simp; omega), HIN.out.err.keep KG (by simp; omega), HIN.out.keep.trans KG (fun y hy _ => by simp only [List.mem_cons, List.not_mem_nil, or_false] at hy ⊢; exact .inl hy)⟩
          have hD3 : wg.heap[D]? = some (.deferred (some [])) := (KG.block D hDl (by simp; omega)).trans HDW.out
          have HD3 := Lib.hid hD3
          have hDg : D < wg.heap.size := (Array.getElem?_eq_some_iff.1 hD3).1
          obtain ⟨_, _, _, f4, f5⟩ := HIF.out.facts
          clear hS hPan hG2 hb0 hb1' hb2' hb3' k3' hbF hD3
          gi_wp2
          have hE := HIF.out.setErr 0
          have hD4 : (wg.setCell ⟨w.heap.size + 1, 0, none⟩ (.int .i64 0)).heap[D]? = some (.deferred (some [])) := ((keep_set wg (w.heap.size + 1) 0 (.int .i64 0)).block D hDg (by simp; omega)).trans HD3.out
          refine leavesM_marksB [D] _ (by simp) (fun D' hD' => by simp at hD'; subst hD'; exact hD4) (fun W' hk => ?_)
          have hm1 : ∀ x t cs, Blk (wg.setCell ⟨w.heap.size + 1, 0, none⟩ (.int .i64 0)) x t cs → x ∉ [D] := fun x t cs hb hm => by
            simp only [List.mem_cons, List.not_mem_nil, or_false] at hm
            subst hm
            rw [show (wg.setCell ⟨w.heap.size + 1, 0, none⟩ (.int .i64 0)).heap[x]? = _ from hb] at hD4
            cases hD4
          have hz : BegAt w W' gb g b1 b2 d' { b with opn := true, pn := 0, s := 4294967295, m := 0 } 0 := ⟨⟨hE.dev.dev.keep hk (hm1 _ _ _ hE.dev.dev), hE.dev.bits.keep hk (hm1 _ _ _ hE.dev.bits), hE.dev.worn.keep hk (hm1 _ _ _ hE.dev.worn)⟩, Blk.keep hE.bank hk (hm1 _ _ _ hE.bank), hE.box.keep hk (hm1 _ _ _ hE.box), hE.err.keep hk (hm1 _ _ _ hE.err), hE.keep.trans hk (fun y hy hl => by simp only [List.mem_cons, List.not_mem_nil, or_false] at hy; omega)⟩
          have m1 : W'.cell? ⟨w.heap.size + 1, 0, none⟩ = some (.int .i64 0) := hz.facts.2.2.2.1
          refine ⟨.int .i64 0, by simp [results, Try.results69, go_sem, m1], ?_⟩
          rw [HR.out]
          exact ⟨rfl, hz.left⟩
        case stop =>
          rintro D c pre W hD hpre ⟨rfl, d', e, hd', he, hin, hK⟩ hD2
          have HR : Hid (bg = (d', { b with opn := false }, e)) := by
            show _ = _
            obtain ⟨r, hr⟩ := hpre
            have hd2 : erasesL dp (secOrd b.base b.many) = (d', e) := by
              have := erasesL_stop pre r dp d' e hd' he
              rw [hr] at this
              exact this
            rw [HBG.out, hd2]
            exact if_neg he
          have hKs := hK.size
          have hE := hin
          gi_wp2
          refine leavesM_marksB [D] W (by simp) (fun D' hD' => by simp at hD'; subst hD'; exact hD2) (fun W' hk => ?_)
          have hm1 : ∀ x t cs, Blk W x t cs → x ∉ [D] := fun x t cs hb hm => by
            simp only [List.mem_cons, List.not_mem_nil, or_false] at hm
            subst hm
            rw [show W.heap[x]? = _ from hb] at hD2
            cases hD2
          have hz : BegAt w W' gb g b1 b2 d' { b with opn := false } e := ⟨⟨hE.dev.dev.keep hk (hm1 _ _ _ hE.dev.dev), hE.dev.bits.keep hk (hm1 _ _ _ hE.dev.bits), hE.dev.worn.keep hk (hm1 _ _ _ hE.dev.worn)⟩, Blk.keep hE.bank hk (hm1 _ _ _ hE.bank), hE.box.keep hk (hm1 _ _ _ hE.box), hE.err.keep hk (hm1 _ _ _ hE.err), hE.keep.trans hk (fun y hy hl => by simp only [List.mem_cons, List.not_mem_nil, or_false] at hy; omega)⟩
          have m1 : W'.cell? ⟨w.heap.size + 1, 0, none⟩ = some (.int .i64 e) := hz.facts.2.2.2.1
          refine ⟨.int .i64 e, by simp [results, Try.results69, go_sem, m1], ?_⟩
          rw [HR.out]
          exact ⟨rfl, hz.left⟩
      · have HR : Hid (bg = (dp, { b with opn := false }, ep)) := by show _ = _; rw [HBG.out, if_neg hep]
        have q0 : (ep == 0) = false := beq_eq_false_iff_ne.2 hep
        have q1 : (ep = 0) = False := eq_false hep
        have q2 : (ep != 0) = true := bne_iff_ne.2 hep
        gi_wp2
        refine leavesM_marksB [] _ List.nodup_nil (fun D hD => absurd hD (by simp)) (fun W' hk => ?_)
        have hz := (HI3.out.setErr ep).keep0 hk
        have m1 : W'.cell? ⟨w.heap.size + 1, 0, none⟩ = some (.int .i64 ep) := hz.facts.2.2.2.1
        refine ⟨.int .i64 ep, by simp [results, Try.results69, go_sem, m1], ?_⟩
        rw [HR.out]
        exact ⟨rfl, hz.left⟩
end
end Go.Proofs.Yteanpgkonhdbpaa
