/- The law's helpers pieces, first: what they gather of an iterator; walked. -/
import Derived.Test.YtmhaomoohacjjaaDigIter
namespace Go.Proofs.Ytmhaomoohacjjaa
open Go.RowKit
attribute [local go_sem] Oper.semAt_some

theorem slice_str : SliceOf Try.prog 37 9 1 16 := ⟨Try.underlying37, by kernel_rfl, by decide⟩
abbrev strs (l : List ByteArray) : List Value := l.map Value.string
theorem number_snd (l : List ByteArray) : ∀ i, (number i l).map (·.2) = l := by
  induction l with
  | nil => intro i; rfl
  | cons a l ih => intro i; simp [number, ih (i + 1)]
theorem number_get (l : List ByteArray) : ∀ i k (x : NumStr), (number i l)[k]? = some x → x.1 = ((i + k : Nat) : Int) := by
  induction l with
  | nil => intro i k x h; simp [number] at h
  | cons a l ih =>
    intro i k x h
    cases k with
    | zero => simp [number] at h; rw [← h]; rfl
    | succ k =>
      have := ih (i + 1) k x (by simpa [number] using h)
      rw [this]; congr 1; omega
theorem number_at {l : List ByteArray} {q : List NumStr} {x : NumStr} (h : q ++ [x] <+: number 0 l) : x.1 = (q.length : Int) := by
  obtain ⟨r, hr⟩ := h
  have := number_get l 0 q.length x (by rw [← hr]; simp)
  simpa using this
def RetStrs (w : World) (xs : List ByteArray) (e : Ending) (w' : World) : Prop :=
  ∃ A c, e = .returned (.slice A xs.length c) ∧ w'.ownsRow w.heap.size 9 1 (.slice A xs.length c) xs.length (strs xs) ∧ Keep [] w w'

theorem pieces_any (s : ByteArray) (w : World) : Calls Try.prog 21 #[.string s] w fun e w' =>
    e = .returned (.func (.func 24) #[] #[.pointer (some ⟨w.heap.size, 0, none⟩)]) ∧ w.alloc (.cells #[.string s] 9) = w' := by
  go_enter Try.func21, Try.ntmps21
  go_wp2
  go_ret
  exact ⟨rfl, rfl⟩

set_option maxRecDepth 100000 in
set_option maxHeartbeats 400000 in
theorem piecesHelp_any (s : ByteArray) (w : World) (hs : s.size ≤ 1000000) :
    Calls Try.prog 17 #[.string s] w (RetStrs w (piecesOf s)) := by
  have hnn := fun f x y => run_neq_func_nil (P := Try.prog) Try.underlying45 f x y
  rw [← callsIn_wide (n := 9)]
  refine callsIn_of_wp_marks Try.func17 rfl trivial ?_ rfl
  simp only [Try.ntmps17, List.size_toArray, List.length_cons, List.length_nil, Nat.reduceAdd, Nat.reduceSub, Array.replicate_succ, Array.replicate_zero, List.push_toArray, List.append_toArray, List.nil_append, List.cons_append]
  gi_wp2_with (refine ⟨trivial, ?_⟩; gi_at_call 21; refine (callsIn_wide.2 (pieces_any s _)).mono ?_; rintro e w' ⟨rfl, rfl⟩)
  obtain ⟨W0, hW0⟩ : ∃ W0, ((w.alloc (.cells #[.slice none 0 0] 37)).alloc (.cells #[.slice none 0 0] 37)).alloc (.cells #[.string s] 9) = W0 := ⟨_, rfl⟩
  have hsz : W0.heap.size = w.heap.size + 3 := by rw [← hW0]; simp
  have b0 : Blk W0 w.heap.size 37 #[.slice none 0 0] := by rw [← hW0]; exact ((Blk.new _ _ _).alloc _).alloc _
  have b1 : Blk W0 (w.heap.size + 1) 37 #[.slice none 0 0] := by
    rw [← hW0]; have := Blk.new (w.alloc (.cells #[.slice none 0 0] 37)) 37 #[.slice none 0 0]; rw [World.size_alloc] at this; exact this.alloc _
  have b2 : Blk W0 (w.heap.size + 2) 9 #[.string s] := by
    rw [← hW0]; have := Blk.new ((w.alloc (.cells #[.slice none 0 0] 37)).alloc (.cells #[.slice none 0 0] 37)) 9 #[.string s]; rw [World.size_alloc, World.size_alloc] at this; exact this
  have K0 : Keep [] w W0 := by rw [← hW0]; exact (((Keep.refl _ w).alloc _).alloc _).alloc _
  have hlen : (piecesOf s).length ≤ s.size + 1 := (scan_le s (s.size + 1)).1
  simp only [hW0]
  refine wpIn_rangeFunc_ownG (F := Fence.wide) (n := 9) (ps := #[12, 13]) rfl (by omega) (gf := 24) (lb := #[.pointer (some ⟨w.heap.size + 2, 0, none⟩)]) rfl trivial (enters_of Try.func24 (by kernel_rfl) rfl)
    (pieces1_stops _ s (w.heap.size + 2) W0 (by omega) (b2.cell 0) (by omega)) Same.trans (Same.turn (by simp; omega)) (Below.refl _ _) (fun _ => rfl)
    (fun pre W => ∃ v, W.ownsRow (w.heap.size + 3) 9 1 v pre.length (strs (pre.map (·.2))) ∧ Blk W (w.heap.size + 1) 37 #[v] ∧ Blk W w.heap.size 37 #[.slice none 0 0] ∧ Keep [w.heap.size, w.heap.size + 1] W0 W)
    (fun _ pre _ => ∃ q x, pre = q ++ [x] ∧ x.1 ≠ (q.length : Int))
    ?hI ?hIx ⟨_, World.ownsRow_nil _ _ _ _, b1, b0, Keep.refl _ _⟩
    (fun x => { tmps := #[.string s, undef, .pointer (some ⟨w.heap.size, 0, none⟩), .pointer (some ⟨w.heap.size + 1, 0, none⟩), .func (.func 24) #[] #[.pointer (some ⟨w.heap.size + 2, 0, none⟩)], .int .i64 x.1, .string x.2, .string s,
      .func (.func 24) #[] #[.pointer (some ⟨w.heap.size + 2, 0, none⟩)], .func (.func 24) #[] #[.pointer (some ⟨w.heap.size + 2, 0, none⟩)], .bool true, .func (.func 24) #[] #[.pointer (some ⟨w.heap.size + 2, 0, none⟩)], .int .i64 x.1, .string x.2,
      undef, undef, undef, undef, undef, undef, undef, undef, undef], defers := [] }) ?assign ?body ?done ?stop
  case hI =>
    intro pre X Y row hs hg hr
    obtain ⟨v, h1, h2, h3, h4⟩ := hs
    exact ⟨v, ownsRow_own (β := Unit) _ _ _ (fun _ => v) (fun _ => pre.length) (fun _ => strs (pre.map (·.2))) () X Y row h1 hg hr, blk_own (β := Unit) _ _ (fun _ => _) () X Y row h2 hg hr, blk_own (β := Unit) _ _ (fun _ => _) () X Y row h3 hg hr,
      keep_own (β := Unit) (Nat.le_refl _) () X Y row h4 hg hr⟩
  case hIx => exact fun _ _ _ _ _ hs _ _ => hs
  case assign =>
    intro l x W K hK
    simp only [encNS]
    gi_wp2
    exact hK
  case body =>
    rintro l pre x W ⟨v, hrow, hv, hr, hK⟩ hlt
    have hc := hv.cell 0
    have hcr := hr.cell 0
    have hfr := hr.frozen 0
    simp at hc hcr
    obtain ⟨A, c, rfl⟩ := own_shape hrow
    have hne := own_blk_ne hrow hv (by decide)
    have hne0 := own_blk_ne hrow hr (by decide)
    have hB : w.heap.size + 3 ≤ W.heap.size := by have := hK.size; omega
    by_cases hx : x.1 = (pre.length : Int)
    · have hb : (x.1 != (pre.length : Int)) = false := by simp [hx]
      clear hx
      gi_wp2_with (gi_at_builtin; refine wpListIn_append_one rfl (.tmp 18) (.tmp 20) 37 rfl slice_str hrow rfl rfl (us := [.string x.2]) rfl (by simp [Value.oneCell']) hB (by omega) (by unfold maxLen; omega) ?_; intro v' w1 hown1 hk1 hat1; obtain ⟨A', c', rfl⟩ := own_shape hown1; have hv1 := hv.keep hk1 (by simpa using hne); have hc1 := hv1.cell 0; have hf1 := hv1.frozen 0; simp at hc1)
      obtain ⟨n1, n2, n3⟩ := boxed_append hrow hv (by decide) hk1 hown1
      have hlt' := fun x hx => (hrow.lt x (by simpa using hx)).1
      refine ⟨n3.from (fun y hy => ?_), Same.keep n3 (fun y hy => ?_), ⟨_, ?_, n1, hr.keep n3 ?_, ?_⟩⟩
      · rcases List.mem_cons.1 hy with rfl | hy
        · exact .inl (by omega)
        · exact .inr (own_cells hrow y hy)
      · simp only [List.mem_singleton] at hy
        subst hy
        refine ⟨by omega, fun hm => ?_⟩
        rcases List.mem_cons.1 hm with h | h
        · omega
        · have := hlt' _ (by simpa using h); omega
      · simpa [strs] using n2
      · intro hm
        rcases List.mem_cons.1 hm with h | h
        · omega
        · have := hlt' _ (by simpa using h); omega
      · refine hK.trans n3 (fun y hy hys => ?_)
        rcases List.mem_cons.1 hy with h | h
        · simp [h]
        · have := hlt' _ (by simpa using h); omega
    · have hb : (x.1 != (pre.length : Int)) = true := by simp [hx]
      have HX := Lib.hid hx
      clear hx
      gi_wp2
      refine ⟨(keep_set W w.heap.size 0 _).from (fun y hy => .inl (by simp at hy; omega)), pre, x, rfl, HX.out⟩
  case done =>
    rintro D ys W hD rfl ⟨v, hrow, hv, hr, hK⟩ hD2
    have hc := hv.cell 0
    have hcr := hr.cell 0
    have hfr := hr.frozen 0
    simp at hc hcr
    obtain ⟨A, c, rfl⟩ := own_shape hrow
    gi_wp2
    have n2 := own_keep hrow (keep_set W w.heap.size 0 (.slice A (number 0 (piecesOf s)).length c)) (fun g hg hm => by have := (hrow.lt g hg).1; simp at hm; omega)
    have n1 := hr.set_ 0 (.slice A (number 0 (piecesOf s)).length c)
    have n3 := (K0.trans hK (by intro y hy hlt; simp at hy; omega)).trans (keep_set W w.heap.size 0 (.slice A (number 0 (piecesOf s)).length c)) (by simp)
    have hD3 := (KeepsOthers.setCell W ⟨w.heap.size, 0, none⟩ (.slice A (number 0 (piecesOf s)).length c)).same D _ hD2 rfl
    refine ⟨by simp, .inl ⟨_, _, rfl, run_takeDeferred hD3, ?_⟩⟩
    have m1 := (blk_putObj (.deferred none) n1 hD3 rfl).cell 0
    have m2 := own_putObj (.deferred none) n2 hD3 rfl
    have m3 := n3.trans (keep_putObj _ D (.deferred none)) (fun y hy hlt => by simp at hy; omega)
    rw [number_length, number_snd] at m2
    simp at m1
    simp only [number_length] at m1 m3 ⊢
    exact ⟨.slice A (piecesOf s).length c, by simp [results, Try.results17, go_sem, m1], A, c, rfl, own_base m2 (by omega), m3⟩
  case stop =>
    rintro D c pre W _ hpre ⟨q, x, rfl, hne⟩ _
    exact absurd (number_at hpre) hne

end Go.Proofs.Ytmhaomoohacjjaa
