/- bank.Worn and bank.Begin, walked. Condition: the device is one that may be, the bank one that fits. -/
import Derived.Test.YteanpgkonhdbpaaBkI
namespace Go.Proofs.Yteanpgkonhdbpaa
open Go.RowKit
attribute [local go_sem] Oper.semAt_some

/-- Can a sector not be erased any more? -/
def wornOut (d : Dev) (s : Nat) : Bool := decide (d.lim ≤ wornS d (s : Int))
def wornB (d : Dev) (b : BkS) : Bool := (secOrd b.base b.many).any (wornOut d)

section
variable (gb g b1 b2 : Nat) (d : Dev) (b : BkS) (w : World) (hb : BankAt w gb g b) (hd : DevAt w g b1 b2 d) (ho : d.Ok) (hk : BkOk d b)
include hb hd ho hk
set_option maxRecDepth 100000 in
set_option maxHeartbeats 4000000 in
theorem bworn_any : Calls Try.prog 33 #[.pointer (some ⟨gb, 0, none⟩)] w fun e w' => e = .returned (.bool (wornB d b)) ∧ Keep [] w w' := by
  have hns := ho.ns2
  have hf := hk.fits
  have h3 := hk.three
  have HWB : Hid (wornB d b = (secOrd b.base b.many).any (wornOut d)) := show _ = _ from rfl
  generalize wornB d b = wb at *
  rw [← callsIn_wide (n := 9)]
  refine callsIn_of_wp_marks Try.func33 rfl trivial ?_ rfl
  simp only [Try.ntmps33, List.size_toArray, List.length_cons, List.length_nil, Nat.reduceAdd, Nat.reduceSub, Array.replicate_succ, Array.replicate_zero, List.push_toArray, List.append_toArray, List.nil_append, List.cons_append]
  gi_wp2_with (refine ⟨trivial, ?_⟩; refine (callsIn_wide.2 (sectors_any gb _)).mono ?_; rintro e w' ⟨rfl, rfl⟩)
  obtain ⟨W0, hW0⟩ : ∃ W0, ((w.alloc (.cells #[.pointer (some ⟨gb, 0, none⟩)] 60)).alloc (.cells #[.bool false] 4)).alloc (.cells #[.pointer (some ⟨gb, 0, none⟩)] 60) = W0 := ⟨_, rfl⟩
  have hsz : W0.heap.size = w.heap.size + 3 := by rw [← hW0]; simp
  have K0 : Keep [] w W0 := by rw [← hW0]; exact (((Keep.refl _ w).alloc _).alloc _).alloc _
  have e1 : Blk W0 w.heap.size 60 #[.pointer (some ⟨gb, 0, none⟩)] := by rw [← hW0]; exact ((Blk.new _ _ _).alloc _).alloc _
  have e2 : Blk W0 (w.heap.size + 1) 4 #[.bool false] := by
    rw [← hW0]; have := Blk.new (w.alloc (.cells #[.pointer (some ⟨gb, 0, none⟩)] 60)) 4 #[.bool false]; rw [World.size_alloc] at this; exact this.alloc _
  have e3 : Blk W0 (w.heap.size + 2) 60 #[.pointer (some ⟨gb, 0, none⟩)] := by
    rw [← hW0]; have := Blk.new ((w.alloc (.cells #[.pointer (some ⟨gb, 0, none⟩)] 60)).alloc (.cells #[.bool false] 4)) 60 #[.pointer (some ⟨gb, 0, none⟩)]; rw [World.size_alloc, World.size_alloc] at this; exact this
  simp only [hW0]
  clear hW0
  have hgb := Blk.lt hb
  have HD0 : Hid (DevAt W0 g b1 b2 d) := hd.keep0 K0
  have HB0 : Hid (BankAt W0 gb g b) := hb.keep0 K0
  have HGL : Hid (g ≠ w.heap.size + 1 ∧ b1 ≠ w.heap.size + 1 ∧ b2 ≠ w.heap.size + 1 ∧ gb ≠ w.heap.size + 1) := by have := hd.dev.lt; have := hd.bits.lt; have := hd.worn.lt; refine ⟨?_, ?_, ?_, ?_⟩ <;> omega
  have hseq := sectors1_seq 8 gb g b (w.heap.size + 2) W0 (hb.keep0 K0) e3 h3 (by omega)
  have HO := Lib.hid ho
  clear hb hd hk ho
  refine wpIn_rangeFunc_ownG (F := Fence.wide) (n := 9) (ps := #[6]) rfl (by omega) (gf := 118) (lb := #[.pointer (some ⟨w.heap.size + 2, 0, none⟩)]) rfl trivial (enters_of Try.func118 (by kernel_rfl) rfl)
    hseq.stops Same.trans (Same.turn (by simp; omega)) (Below.refl _ _) (fun _ => rfl)
    (fun pre W => (∀ s ∈ pre, wornOut d s = false) ∧ Blk W (w.heap.size + 1) 4 #[.bool false] ∧ Keep [w.heap.size + 1] W0 W)
    (fun c pre W => c = .ret ∧ (∃ s ∈ pre, wornOut d s = true) ∧ Blk W (w.heap.size + 1) 4 #[.bool true] ∧ Keep [w.heap.size + 1] W0 W)
    ?hI ?hIx ⟨fun s hs => (by cases hs), e2, Keep.refl _ _⟩
    (fun x => { tmps := #[.pointer (some ⟨gb, 0, none⟩), .pointer (some ⟨w.heap.size, 0, none⟩), .pointer (some ⟨w.heap.size + 1, 0, none⟩), .int .i64 (x : Int), .pointer (some ⟨gb, 0, none⟩), .func (.func 118) #[] #[.pointer (some ⟨w.heap.size + 2, 0, none⟩)], .int .i64 (x : Int), undef, undef, undef, undef, undef, undef, undef, undef, undef, undef, undef, undef], defers := [] }) ?assign ?body ?done ?stop
  case hI =>
    rintro pre X Y row ⟨h1, h2, h4⟩ hg hr
    exact ⟨h1, blk_own (β := Unit) _ _ (fun _ => _) () X Y row h2 hg hr, keep_own (β := Unit) (Nat.le_refl _) () X Y row h4 hg hr⟩
  case hIx =>
    rintro c pre X Y row ⟨h1, h3, h2, h4⟩ hg hr
    exact ⟨h1, h3, blk_own (β := Unit) _ _ (fun _ => _) () X Y row h2 hg hr, keep_own (β := Unit) (Nat.le_refl _) () X Y row h4 hg hr⟩
  case assign =>
    intro l x W K hK
    simp only [encNat]
    gi_wp2
    exact hK
  case body =>
    rintro l pre x W ⟨hno, hr, hK⟩ hlt
    have hgl := HGL.out
    have hd1 : DevAt W g b1 b2 d := HD0.out.keep hK (by simp; omega) (by simp; omega) (by simp; omega)
    have hb1 : BankAt W gb g b := Blk.keep HB0.out hK (by simp; omega)
    have eb : Blk W w.heap.size 60 #[.pointer (some ⟨gb, 0, none⟩)] := e1.keep hK (by simp)
    have hF : ∀ W', Keep [] W W' → W'.cell? ⟨w.heap.size, 0, none⟩ = some (.pointer (some ⟨gb, 0, none⟩)) ∧ W'.cell? ⟨gb, 0, none⟩ = some (.pointer (some ⟨g, 0, none⟩)) ∧ True := fun W' k => ⟨(eb.keep0 k).cell 0, (hb1.keep0 k).cells.1, trivial⟩
    have HWO : Hid (∀ W', Keep [] W W' → Calls Try.prog 77 #[.pointer (some ⟨g, 0, none⟩), .int .i64 (x : Int)] W' fun e w' => e = .returned (.int .i64 (wornS d (x : Int) : Int)) ∧ Keep [] W w') := fun W' k => (fworn_any g b1 b2 d (x : Int) W' (hd1.keep0 k) HO.out).mono fun e w' h => ⟨h.1, h.2 ▸ k⟩
    have HLI : Hid (∀ W', Keep [] W W' → Calls Try.prog 78 #[.pointer (some ⟨g, 0, none⟩)] W' fun e w' => e = .returned (.int .i64 d.lim) ∧ Keep [] W w') := fun W' k => (flimit_any g b1 b2 d W' (hd1.keep0 k)).mono fun e w' h => ⟨h.1, h.2 ▸ k⟩
    have HWX : Hid (wornOut d x = decide (d.lim ≤ wornS d (x : Int))) := show _ = _ from rfl
    generalize wornS d (x : Int) = ws at *
    gi_wp2
    refine region_in_flow (Keep [] W) (open_round _) rfl rfl (by kernel_rfl) (Keep.refl _ _).drew ?_
    iterate 5 (refine fl_val (v := ?_) (by rfl) ?_ ?_; rotate_left; (intro w' hS; obtain ⟨f0,f1,f2⟩ := hF w' hS; go_simp; with_reducible rfl); simp only [Act.put, List.setIfInBounds_toArray, List.set_cons_zero, List.set_cons_succ])
    refine fl_call (f := 77) (v := .int .i64 (ws : Int)) (by rfl) rfl (by simp only [List.map_toArray, List.map_cons, List.map_nil]; rfl) Try.func77 (by kernel_rfl) (by kernel_rfl) (fun w' hS => ((HWO.out w' hS))) ?_; simp only [Act.put, List.setIfInBounds_toArray, List.set_cons_zero, List.set_cons_succ]
    iterate 4 (refine fl_val (v := ?_) (by rfl) ?_ ?_; rotate_left; (intro w' hS; obtain ⟨f0,f1,f2⟩ := hF w' hS; go_simp; with_reducible rfl); simp only [Act.put, List.setIfInBounds_toArray, List.set_cons_zero, List.set_cons_succ])
    refine fl_call (f := 78) (v := .int .i64 (d.lim : Int)) (by rfl) rfl (by simp only [List.map_toArray, List.map_cons, List.map_nil]; rfl) Try.func78 (by kernel_rfl) (by kernel_rfl) (fun w' hS => ((HLI.out w' hS))) ?_; simp only [Act.put, List.setIfInBounds_toArray, List.set_cons_zero, List.set_cons_succ]
    (refine fl_val (v := ?_) (by rfl) ?_ ?_; rotate_left; (intro w' hS; obtain ⟨f0,f1,f2⟩ := hF w' hS; go_simp; with_reducible rfl); simp only [Act.put, List.setIfInBounds_toArray, List.set_cons_zero, List.set_cons_succ])
    refine fl_nil ?_
    intro w' hS
    have hr2 := hr.keep0 hS
    have hcr := hr2.cell 0
    have hfr := hr2.frozen 0
    simp at hcr
    clear hF HWO HLI hd1 hb1 eb
    by_cases hge : d.lim ≤ ws
    · have q0 : decide ((d.lim : Int) ≤ (ws : Int)) = true := decide_eq_true (by omega)
      have p0 := eq_true hge
      gi_wp2
      have kst := (hS.mono (G := [w.heap.size + 1]) (by simp)).trans (keep_set w' (w.heap.size + 1) 0 (.bool true)) (fun y hy _ => hy)
      exact ⟨kst.from (fun y hy => .inl (by simp at hy; omega)), rfl, ⟨x, by simp, by rw [HWX.out]; exact decide_eq_true hge⟩, hr2.set_ 0 _, hK.trans kst (by simp)⟩
    · have q0 : decide ((d.lim : Int) ≤ (ws : Int)) = false := decide_eq_false (by omega)
      have p0 := eq_false hge
      gi_wp2
      refine ⟨hS.from (fun y hy => by simp at hy), Same.keep hS (fun y hy => ⟨?_, by simp⟩), fun s hs => ?_, hr2, hK.then hS⟩
      · have := hK.size
        simp only [List.mem_cons, List.not_mem_nil, or_false] at hy
        omega
      · rcases List.mem_append.1 hs with hs | hs
        · exact hno s hs
        · rw [List.mem_singleton] at hs
          subst hs
          rw [HWX.out]
          exact decide_eq_false hge
  case done =>
    rintro D ys W hD rfl ⟨hno, hr, hK⟩ hD2
    have hcr := hr.cell 0
    have hfr := hr.frozen 0
    simp at hcr
    have HP : Hid (wb = false) := by
      show _ = _
      rw [HWB.out, List.any_eq_false]
      intro s hs
      rw [hno s hs]
      decide
    gi_wp2
    have kst := keep_set W (w.heap.size + 1) 0 (.bool false)
    have hD3 := (kst.block D (Array.getElem?_eq_some_iff.1 hD2).1 (by simp; omega)).trans hD2
    refine ⟨by simp, .inl ⟨_, _, rfl, run_takeDeferred hD3, ?_⟩⟩
    have m1 := (blk_putObj (.deferred none) (hr.set_ 0 (.bool false)) hD3 rfl).cell 0
    simp at m1
    exact ⟨.bool false, by simp [results, Try.results33, go_sem, m1], by rw [HP.out],
      ((K0.trans hK (by intro y hy hlt; simp at hy; omega)).trans kst (by intro y hy hlt; simp at hy; omega)).trans (keep_putObj _ D (.deferred none)) (fun y hy hlt => by simp at hy; omega)⟩
  case stop =>
    rintro D c pre W hD hpre ⟨rfl, ⟨s, hs, hw⟩, hr, hK⟩ hD2
    have HP : Hid (wb = true) := by
      show _ = _
      rw [HWB.out, List.any_eq_true]
      exact ⟨s, hpre.subset hs, hw⟩
    gi_wp2
    refine ⟨by simp, .inl ⟨_, _, rfl, run_takeDeferred hD2, ?_⟩⟩
    have m1 := (blk_putObj (.deferred none) hr hD2 rfl).cell 0
    simp at m1
    exact ⟨.bool true, by simp [results, Try.results33, go_sem, m1], by rw [HP.out], (K0.trans hK (by intro y hy hlt; simp at hy; omega)).trans (keep_putObj W D (.deferred none)) (fun y hy hlt => by simp at hy; omega)⟩
end
end Go.Proofs.Yteanpgkonhdbpaa
