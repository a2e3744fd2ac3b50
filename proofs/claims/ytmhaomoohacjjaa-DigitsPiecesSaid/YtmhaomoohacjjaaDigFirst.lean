/- The law's helper first: what an iterator hands on at first; walked. -/
import Derived.Test.YtmhaomoohacjjaaDigHelp
namespace Go.Proofs.Ytmhaomoohacjjaa
open Go.RowKit
attribute [local go_sem] Oper.semAt_some

def headS : List ByteArray → ByteArray
  | [] => ByteArray.empty
  | a :: _ => a
set_option maxRecDepth 100000 in
set_option maxHeartbeats 400000 in
theorem first_any (s : ByteArray) (w : World) (hs : s.size ≤ 1000000) :
    Calls Try.prog 18 #[.string s] w fun e w' => e = .returned (.string (headS (piecesOf s))) ∧ Keep [] w w' := by
  have hnn := fun f x y => run_neq_func_nil (P := Try.prog) Try.underlying45 f x y
  rw [← callsIn_wide (n := 9)]
  refine callsIn_of_wp_marks Try.func18 rfl trivial ?_ rfl
  simp only [Try.ntmps18, List.size_toArray, List.length_cons, List.length_nil, Nat.reduceAdd, Nat.reduceSub, Array.replicate_succ, Array.replicate_zero, List.push_toArray, List.append_toArray, List.nil_append, List.cons_append]
  gi_wp2_with (refine ⟨trivial, ?_⟩; gi_at_call 21; refine (callsIn_wide.2 (pieces_any s _)).mono ?_; rintro e w' ⟨rfl, rfl⟩)
  obtain ⟨W0, hW0⟩ : ∃ W0, (w.alloc (.cells #[.string ByteArray.empty] 9)).alloc (.cells #[.string s] 9) = W0 := ⟨_, rfl⟩
  have hW0' : (w.alloc (.cells #[.string { data := #[] }] 9)).alloc (.cells #[.string s] 9) = W0 := hW0
  have hsz : W0.heap.size = w.heap.size + 2 := by rw [← hW0]; simp
  have b0 : Blk W0 w.heap.size 9 #[.string ByteArray.empty] := by rw [← hW0]; exact (Blk.new _ _ _).alloc _
  have b2 : Blk W0 (w.heap.size + 1) 9 #[.string s] := by
    rw [← hW0]; have := Blk.new (w.alloc (.cells #[.string ByteArray.empty] 9)) 9 #[.string s]; rw [World.size_alloc] at this; exact this
  have K0 : Keep [] w W0 := by rw [← hW0]; exact ((Keep.refl _ w).alloc _).alloc _
  try simp only [hW0']
  clear hW0 hW0'
  refine wpIn_rangeFunc_ownG (F := Fence.wide) (n := 9) (ps := #[11, 12]) rfl (by omega) (gf := 24) (lb := #[.pointer (some ⟨w.heap.size + 1, 0, none⟩)]) rfl trivial (enters_of Try.func24 (by kernel_rfl) rfl)
    (pieces1_stops _ s (w.heap.size + 1) W0 (by omega) (b2.cell 0) (by omega)) Same.trans (Same.turn (by simp; omega)) (Below.refl _ _) (fun _ => rfl)
    (fun pre W => pre = [] ∧ Blk W w.heap.size 9 #[.string ByteArray.empty] ∧ Keep [w.heap.size] W0 W)
    (fun c pre W => c = .ret ∧ ∃ x, pre = [x] ∧ Blk W w.heap.size 9 #[.string x.2] ∧ Keep [w.heap.size] W0 W)
    ?hI ?hIx ⟨rfl, b0, Keep.refl _ _⟩
    (fun x => { tmps := #[.string s, undef, .pointer (some ⟨w.heap.size, 0, none⟩), .func (.func 24) #[] #[.pointer (some ⟨w.heap.size + 1, 0, none⟩)], undef, .string x.2, .string s, .func (.func 24) #[] #[.pointer (some ⟨w.heap.size + 1, 0, none⟩)],
      .func (.func 24) #[] #[.pointer (some ⟨w.heap.size + 1, 0, none⟩)], .bool true, .func (.func 24) #[] #[.pointer (some ⟨w.heap.size + 1, 0, none⟩)], .int .i64 x.1, .string x.2, undef], defers := [] }) ?assign ?body ?done ?stop
  case hI =>
    rintro pre X Y row ⟨h1, h2, h4⟩ hg hr
    exact ⟨h1, blk_own (β := Unit) _ _ (fun _ => _) () X Y row h2 hg hr, keep_own (β := Unit) (Nat.le_refl _) () X Y row h4 hg hr⟩
  case hIx =>
    rintro c pre X Y row ⟨h1, x, h3, h2, h4⟩ hg hr
    exact ⟨h1, x, h3, blk_own (β := Unit) _ _ (fun _ => _) () X Y row h2 hg hr, keep_own (β := Unit) (Nat.le_refl _) () X Y row h4 hg hr⟩
  case assign =>
    intro l x W K hK
    simp only [encNS]
    gi_wp2
    exact hK
  case body =>
    rintro l pre x W ⟨rfl, hr, hK⟩ hlt
    have hcr := hr.cell 0
    have hfr := hr.frozen 0
    simp at hcr
    gi_wp2
    have kst := keep_set W w.heap.size 0 (.string x.2)
    exact ⟨kst.from (fun y hy => .inl (by simp at hy; omega)), rfl, x, rfl, hr.set_ 0 _, hK.trans kst (by simp)⟩
  case done =>
    rintro D ys W hD rfl ⟨hnil, hr, hK⟩ hD2
    have hcr := hr.cell 0
    have hfr := hr.frozen 0
    simp at hcr
    have HP : Hid (piecesOf s = []) := by
      show _ = _
      have := congrArg List.length hnil
      rw [number_length] at this
      exact List.eq_nil_of_length_eq_zero (by simpa using this)
    gi_wp2
    have kst := keep_set W w.heap.size 0 (.string { data := #[] })
    have hD3 := (kst.block D (Array.getElem?_eq_some_iff.1 hD2).1 (by simp; omega)).trans hD2
    refine ⟨by simp, .inl ⟨_, _, rfl, run_takeDeferred hD3, ?_⟩⟩
    have m1 := (blk_putObj (.deferred none) (hr.set_ 0 (.string { data := #[] })) hD3 rfl).cell 0
    simp at m1
    exact ⟨.string { data := #[] }, by simp [results, Try.results18, go_sem, m1], by rw [HP.out]; rfl,
      ((K0.trans hK (by intro y hy hlt; simp at hy; omega)).trans kst (by intro y hy hlt; simp at hy; omega)).trans (keep_putObj _ D (.deferred none)) (fun y hy hlt => by simp at hy; omega)⟩
  case stop =>
    rintro D c pre W hD hpre ⟨rfl, x, rfl, hr, hK⟩ hD2
    have HP : Hid (headS (piecesOf s) = x.2) := by
      show _ = _
      obtain ⟨r, hr⟩ := hpre
      have h1 := number_snd (piecesOf s) 0
      rw [← hr] at h1
      rw [← h1]; rfl
    gi_wp2
    refine ⟨by simp, .inl ⟨_, _, rfl, run_takeDeferred hD2, ?_⟩⟩
    have m1 := (blk_putObj (.deferred none) hr hD2 rfl).cell 0
    simp at m1
    exact ⟨.string x.2, by simp [results, Try.results18, go_sem, m1], by rw [HP.out], (K0.trans hK (by intro y hy hlt; simp at hy; omega)).trans (keep_putObj W D (.deferred none)) (fun y hy hlt => by simp at hy; omega)⟩
end Go.Proofs.Ytmhaomoohacjjaa
