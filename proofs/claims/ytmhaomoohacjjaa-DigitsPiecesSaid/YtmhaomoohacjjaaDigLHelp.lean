/- The law's helper lines: what it gathers of an iterator; walked. -/
import Derived.Test.YtmhaomoohacjjaaDigLines
import Derived.Test.YtmhaomoohacjjaaDigHelp
namespace Go.Proofs.Ytmhaomoohacjjaa
open Go.RowKit
attribute [local go_sem] Oper.semAt_some

theorem linesT_len (s : ByteArray) : (linesT s).length ≤ s.size + 1 := by
  have key : ∀ n t, (linesS n t).length ≤ n := by
    intro n
    induction n with
    | zero => intro t; simp [linesS]
    | succ n ih =>
      intro t
      rw [linesS]
      split
      · simp
      · have := ih (restNl t)
        simp; omega
  have := key s.size s
  unfold linesT
  omega
theorem number_at1 {l : List ByteArray} {q : List NumStr} {x : NumStr} (h : q ++ [x] <+: number 1 l) : x.1 = (q.length : Int) + 1 := by
  obtain ⟨r, hr⟩ := h
  have := number_get l 1 q.length x (by rw [← hr]; simp)
  rw [this]
  omega
set_option maxRecDepth 100000 in
set_option maxHeartbeats 400000 in
theorem linesHelp_any (s : ByteArray) (w : World) (hs : s.size ≤ 1000000) :
    Calls Try.prog 19 #[.string s] w (RetStrs w (linesT s)) := by
  have hnn := fun f x y => run_neq_func_nil (P := Try.prog) Try.underlying45 f x y
  rw [← callsIn_wide (n := 9)]
  refine callsIn_of_wp_marks Try.func19 rfl trivial ?_ rfl
  simp only [Try.ntmps19, List.size_toArray, List.length_cons, List.length_nil, Nat.reduceAdd, Nat.reduceSub, Array.replicate_succ, Array.replicate_zero, List.push_toArray, List.append_toArray, List.nil_append, List.cons_append]
  gi_wp2_with (refine ⟨trivial, ?_⟩; gi_at_call 22; refine (callsIn_wide.2 (lines_any s _)).mono ?_; rintro e w' ⟨rfl, rfl⟩)
  obtain ⟨W0, hW0⟩ : ∃ W0, ((w.alloc (.cells #[.slice none 0 0] 37)).alloc (.cells #[.slice none 0 0] 37)).alloc (.cells #[.string s] 9) = W0 := ⟨_, rfl⟩
  have hsz : W0.heap.size = w.heap.size + 3 := by rw [← hW0]; simp
  have b0 : Blk W0 w.heap.size 37 #[.slice none 0 0] := by rw [← hW0]; exact ((Blk.new _ _ _).alloc _).alloc _
  have b1 : Blk W0 (w.heap.size + 1) 37 #[.slice none 0 0] := by
    rw [← hW0]; have := Blk.new (w.alloc (.cells #[.slice none 0 0] 37)) 37 #[.slice none 0 0]; rw [World.size_alloc] at this; exact this.alloc _
  have b2 : Blk W0 (w.heap.size + 2) 9 #[.string s] := by
    rw [← hW0]; have := Blk.new ((w.alloc (.cells #[.slice none 0 0] 37)).alloc (.cells #[.slice none 0 0] 37)) 9 #[.string s]; rw [World.size_alloc, World.size_alloc] at this; exact this
  have K0 : Keep [] w W0 := by rw [← hW0]; exact (((Keep.refl _ w).alloc _).alloc _).alloc _
  have hlen : (linesT s).length ≤ s.size + 1 := linesT_len s
  simp only [hW0]
  refine wpIn_rangeT (F := Fence.wide) (n := 9) (Lo := fun r _ => r = w.heap.size + 2) (ps := #[12, 13]) rfl (by omega) (gf := 25) (lb := #[.pointer (some ⟨w.heap.size + 2, 0, none⟩)]) rfl trivial (enters_of Try.func25 (by kernel_rfl) rfl)
    (lines1_seq _ s (w.heap.size + 2) W0 (by omega) b2 hs) Same.trans (fun W _ o' _ _ => fun k hk => World.putObj_heap_other (by simp at hk; omega)) (Below.refl _ _) (fun _ => rfl)
    (fun pre W => ∃ v, W.ownsRow (w.heap.size + 3) 9 1 v pre.length (strs (pre.map (·.2))) ∧ Blk W (w.heap.size + 1) 37 #[v] ∧ Blk W w.heap.size 37 #[.slice none 0 0] ∧ Keep [w.heap.size, w.heap.size + 1, w.heap.size + 2] W0 W)
    (fun _ pre _ => ∃ q x, pre = q ++ [x] ∧ x.1 ≠ (q.length : Int) + 1)
    ?hI ?hIx ⟨_, World.ownsRow_nil _ _ _ _, b1, b0, Keep.refl _ _⟩
    (fun x => { tmps := #[.string s, undef, .pointer (some ⟨w.heap.size, 0, none⟩), .pointer (some ⟨w.heap.size + 1, 0, none⟩), .func (.func 25) #[] #[.pointer (some ⟨w.heap.size + 2, 0, none⟩)], .int .i64 x.1, .string x.2, .string s,
      .func (.func 25) #[] #[.pointer (some ⟨w.heap.size + 2, 0, none⟩)], .func (.func 25) #[] #[.pointer (some ⟨w.heap.size + 2, 0, none⟩)], .bool true, .func (.func 25) #[] #[.pointer (some ⟨w.heap.size + 2, 0, none⟩)], .int .i64 x.1, .string x.2,
      undef, undef, undef, undef, undef, undef, undef, undef, undef, undef], defers := [] }) ?assign ?body ?done ?stop
  case hI =>
    rintro pre X Y row ⟨v, h1, h2, h3, h4⟩ hg hr
    have hne : ∀ g t cs, Blk X g t cs → g ≠ w.heap.size + 2 → Blk Y g t cs := fun g t cs hb hgn => by
      refine (hg.block g hb.lt (fun e => ?_)).trans hb
      obtain ⟨o, ho, ⟨_, hc⟩ | ⟨_, hc⟩⟩ := hr g e.symm
      · rw [show X.heap[g]? = _ from hb] at ho; cases ho; cases hc
      · exact hgn hc
    refine ⟨v, own_keep h1 (Keep.of_grown hg) (fun gb hgb hx => ?_), hne _ _ _ h2 (by omega), hne _ _ _ h3 (by omega), h4.trans (Keep.of_grown hg) (fun y hy hlt => ?_)⟩
    · obtain ⟨o, ho, ⟨_, hc⟩ | ⟨_, hc⟩⟩ := hr gb (by simpa using hx)
      · obtain ⟨cs, t, fr, hh⟩ := own_cells h1 gb (by simp [hgb])
        rw [ho] at hh; cases hh; cases hc
      · have := (h1.lt gb hgb).1
        have hc' : gb = w.heap.size + 2 := hc
        omega
    · obtain ⟨o, ho, ⟨hc, _⟩ | ⟨_, hc⟩⟩ := hr y (by simpa using hy)
      · omega
      · have hc' : y = w.heap.size + 2 := hc
        simp [hc']
  case hIx => exact fun _ _ _ _ _ hs _ _ => hs
  case assign =>
    intro l x W K hK
    simp only [encNS]
    gi_wp2
    exact hK
  case body =>
    rintro l pre x W ⟨v, hrow, hv, hr, hK⟩ hpre
    have hlt : pre.length < (linesT s).length := by have := hpre.length_le; rw [number_length] at this; simp at this; omega
    have hc := hv.cell 0
    have hcr := hr.cell 0
    have hfr := hr.frozen 0
    simp at hc hcr
    obtain ⟨A, c, rfl⟩ := own_shape hrow
    have hne := own_blk_ne hrow hv (by decide)
    have hne0 := own_blk_ne hrow hr (by decide)
    have hB : w.heap.size + 3 ≤ W.heap.size := by have := hK.size; omega
    by_cases hx : x.1 = (pre.length : Int) + 1
    · have hb : (x.1 != (pre.length : Int) + 1) = false := by simp [hx]
      clear hx
      gi_wp2_with (gi_at_builtin; refine wpListIn_append_one rfl (.tmp 19) (.tmp 21) 37 rfl slice_str hrow rfl rfl (us := [.string x.2]) rfl (by simp [Value.oneCell']) hB (by omega) (by unfold maxLen; omega) ?_; intro v' w1 hown1 hk1 hat1; obtain ⟨A', c', rfl⟩ := own_shape hown1; have hv1 := hv.keep hk1 (by simpa using hne); have hc1 := hv1.cell 0; have hf1 := hv1.frozen 0; simp at hc1)
      obtain ⟨n1, n2, n3⟩ := boxed_append hrow hv (by decide) hk1 hown1
      have hlt' := fun x hx => (hrow.lt x (by simpa using hx)).1
      refine ⟨n3.from (fun y hy => ?_), Same.keep n3 (fun y hy => ?_), ⟨_, ?_, n1, hr.keep n3 ?_, ?_⟩⟩
      · rcases List.mem_cons.1 hy with rfl | hy
        · exact .inl (by omega)
        · exact .inr (own_cells hrow y hy)
      · simp only [List.mem_singleton] at hy
        subst hy
        refine ⟨by omega, fun hm => ?_⟩
        rcases List.mem_cons.1 hm with h | h
        · omega
        · have := hlt' _ (by simpa using h); omega
      · simpa [strs] using n2
      · intro hm
        rcases List.mem_cons.1 hm with h | h
        · omega
        · have := hlt' _ (by simpa using h); omega
      · refine hK.trans n3 (fun y hy hys => ?_)
        rcases List.mem_cons.1 hy with h | h
        · simp [h]
        · have := hlt' _ (by simpa using h); omega
    · have hb : (x.1 != (pre.length : Int) + 1) = true := by simp [hx]
      have HX := Lib.hid hx
      clear hx
      gi_wp2
      refine ⟨(keep_set W w.heap.size 0 _).from (fun y hy => .inl (by simp at hy; omega)), Same.keep (keep_set W w.heap.size 0 _) (fun y hy => ⟨by simp at hy; omega, by simp at hy ⊢; omega⟩), pre, x, rfl, HX.out⟩
  case done =>
    rintro D W hD ⟨v, hrow, hv, hr, hK⟩ hD2
    have hc := hv.cell 0
    have hcr := hr.cell 0
    have hfr := hr.frozen 0
    simp at hc hcr
    obtain ⟨A, c, rfl⟩ := own_shape hrow
    gi_wp2
    have n2 := own_keep hrow (keep_set W w.heap.size 0 (.slice A (number 1 (linesT s)).length c)) (fun g hg hm => by have := (hrow.lt g hg).1; simp at hm; omega)
    have n1 := hr.set_ 0 (.slice A (number 1 (linesT s)).length c)
    have n3 := (K0.trans hK (by intro y hy hlt; simp at hy; omega)).trans (keep_set W w.heap.size 0 (.slice A (number 1 (linesT s)).length c)) (by simp)
    have hD3 := (KeepsOthers.setCell W ⟨w.heap.size, 0, none⟩ (.slice A (number 1 (linesT s)).length c)).same D _ hD2 rfl
    refine ⟨by simp, .inl ⟨_, _, rfl, run_takeDeferred hD3, ?_⟩⟩
    have m1 := (blk_putObj (.deferred none) n1 hD3 rfl).cell 0
    have m2 := own_putObj (.deferred none) n2 hD3 rfl
    have m3 := n3.trans (keep_putObj _ D (.deferred none)) (fun y hy hlt => by simp at hy; omega)
    rw [number_length, number_snd] at m2
    simp at m1
    simp only [number_length] at m1 m3 ⊢
    exact ⟨.slice A (linesT s).length c, by simp [results, Try.results19, go_sem, m1], A, c, rfl, own_base m2 (by omega), m3⟩
  case stop =>
    rintro D c pre W _ hpre' ⟨q, x, rfl, hne⟩ _
    exact absurd (number_at1 (hpre')) hne

end Go.Proofs.Ytmhaomoohacjjaa
