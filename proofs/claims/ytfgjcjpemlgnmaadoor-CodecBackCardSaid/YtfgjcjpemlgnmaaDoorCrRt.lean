/- What the document's Right says; the words of an image that may be are words of 32 bits. No condition. -/
import Derived.Test.YtfgjcjpemlgnmaaDoorCrEdgeD
namespace Go.Proofs.YtfgjcjpemlgnmaaDoor
open Go.RowKit

theorem lonOk_ge {cost res : Int} : ∀ (l : List Int) (r : Nat), lonOk cost res r l = true → ∀ n ∈ l, 0 ≤ n ∧ n ≤ max 0 cost
  | [], _, _, n, hn => by cases hn
  | a :: l, r, h, n, hn => by
    rw [lonOk, Bool.and_eq_true] at h
    have h1 := inR_iff.1 h.1
    rcases List.mem_cons.1 hn with rfl | hm
    · refine ⟨h1.1, Int.le_trans h1.2 ?_⟩
      split <;> omega
    · exact lonOk_ge l (r + 1) h.2 n hm
theorem mapsOk_ge {frm tt : Nat} : ∀ (l : List Int) (k : Nat) (seen : List Int), mapsOk frm tt k seen l = true → ∀ n ∈ l, 0 ≤ n ∧ n ≤ tt
  | [], _, _, _, n, hn => by cases hn
  | a :: l, k, seen, h, n, hn => by
    rw [mapsOk, Bool.and_eq_true, Bool.and_eq_true] at h
    rcases List.mem_cons.1 hn with rfl | hm
    · exact inR_iff.1 h.1.1
    · exact mapsOk_ge l _ _ h.2 n hm
theorem offsOk_ge {prot : Int} {a b : Nat} : ∀ (l : List Int) (k : Nat), offsOk prot a b k l = true → ∀ n ∈ l, 0 ≤ n ∧ n ≤ 16384
  | [], _, _, n, hn => by cases hn
  | c :: l, k, h, n, hn => by
    rw [offsOk, Bool.and_eq_true, Bool.and_eq_true] at h
    rcases List.mem_cons.1 hn with rfl | hm
    · exact inR_iff.1 h.1.1
    · exact offsOk_ge l _ h.2 n hm
theorem RightI.taskIn {x : Img} (h : RightI x) {t : Tsk} (ht : t ∈ x.tasks) : (1 ≤ t.per ∧ t.per ≤ 4096) ∧ (1 ≤ t.ded ∧ t.ded ≤ t.per) ∧ (1 ≤ t.cost ∧ t.cost ≤ t.ded) ∧ ∀ n ∈ t.lon, 0 ≤ n ∧ n ≤ 4096 := by
  have := h.task t ht
  unfold tskOk at this
  simp only [Bool.and_eq_true, inR_iff] at this
  obtain ⟨⟨⟨a, b⟩, c⟩, d⟩ := this
  exact ⟨a, b, c, fun n hn => by have := lonOk_ge _ _ d n hn; omega⟩
theorem RightI.pairsIn {x : Img} (h : RightI x) {e : Edg} (he : e ∈ x.edges) : (∀ n ∈ e.mp, 0 ≤ n ∧ n ≤ 16384) ∧ (∀ n ∈ e.offs, 0 ≤ n ∧ n ≤ 16384) := by
  obtain ⟨k, hk, rfl⟩ := List.getElem_of_mem he
  have := h.edge k hk
  unfold edgOk at this
  simp only [Bool.and_eq_true] at this
  refine ⟨fun n hn => ?_, offsOk_ge _ _ this.2⟩
  have h1 := mapsOk_ge _ _ _ this.1.2 n hn
  refine ⟨h1.1, Int.le_trans h1.2 ?_⟩
  have h2 := (h.edgeIn k hk).2.1
  have hlt : (x.edges[k].to).toNat < x.modes.length := by omega
  rw [List.getD_eq_getElem?_getD, List.getElem?_eq_getElem hlt]
  have h3 := (h.mode _ (List.getElem_mem hlt)).2
  unfold quesOk at h3
  simp only [Bool.and_eq_true, decide_eq_true_eq] at h3
  have := h3.1
  simp only [Option.getD_some]
  omega
theorem RightI.queIn {x : Img} (h : RightI x) {m : Mdd} (hm : m ∈ x.modes) : m.qs.length ≤ 4 ∧ ∀ q ∈ m.qs, (1 ≤ q.cap ∧ q.cap ≤ 16) ∧ 1 ≤ q.pol ∧ q.pol ≤ 3 := by
  have h3 := (h.mode m hm).2
  unfold quesOk at h3
  simp only [Bool.and_eq_true, decide_eq_true_eq] at h3
  refine ⟨h3.1, fun q hq => ?_⟩
  have := List.all_eq_true.1 h3.2 q hq
  unfold queOk at this
  simp only [Bool.and_eq_true, inR_iff] at this
  exact this
theorem getD_in {l : List Int} {k : Nat} {m : Int} (hm : 0 ≤ m) (h : ∀ n ∈ l, 0 ≤ n ∧ n ≤ m) : 0 ≤ l.getD k 0 ∧ l.getD k 0 ≤ m := by
  rw [List.getD_eq_getElem?_getD]
  rcases Nat.lt_or_ge k l.length with h1 | h1
  · rw [List.getElem?_eq_getElem h1]
    exact h _ (List.getElem_mem h1)
  · rw [List.getElem?_eq_none h1]
    exact ⟨Int.le_refl _, hm⟩
theorem RightI.words_in {x : Img} (h : RightI x) (ho : x.Ok) : ∀ n ∈ wordsI x, 0 ≤ n ∧ n < 4294967296 := by
  have hnt := h.nt
  have hnm := h.nm
  have hne := h.ne
  have hr := h.res
  intro n hn
  unfold wordsI headI at hn
  simp only [List.mem_append, List.mem_cons, List.not_mem_nil, or_false, List.mem_flatMap] at hn
  rcases hn with (rfl | rfl | rfl | rfl | rfl) | ⟨t, ht, hw⟩ | ⟨m, hm, hw⟩ | ⟨e, he, hw⟩
  · omega
  · omega
  · omega
  · omega
  · omega
  · obtain ⟨h1, h2, h3, h4⟩ := h.taskInR ht
    have hB := usesB_lt t.lon 8
    unfold wordsT at hw
    simp only [List.mem_cons] at hw
    rcases hw with rfl | rfl | rfl | rfl | hw
    · omega
    · omega
    · omega
    · omega
    · have := usesK_in t.lon 4096 (fun v hv => (h4 v hv).2) 8 (by rw [ho.lon t ht]; omega) n hw
      omega
  · have h16 := h.set16 m hm
    obtain ⟨h1, h2⟩ := h.queIn hm
    unfold wordsM at hw
    simp only [List.mem_cons, List.mem_flatMap] at hw
    rcases hw with rfl | rfl | ⟨q, hq, hw⟩
    · omega
    · omega
    · have := h2 q hq
      simp only [queInts, List.mem_cons, List.not_mem_nil, or_false] at hw
      rcases hw with rfl | rfl <;> omega
  · obtain ⟨g1, g2⟩ := h.pairsIn he
    obtain ⟨k, hk, rfl⟩ := List.getElem_of_mem he
    have h1 := h.edgeIn k hk
    unfold wordsE at hw
    simp only [List.mem_cons, List.mem_append] at hw
    rcases hw with rfl | rfl | rfl | hw | hw
    · omega
    · omega
    · omega
    · have := g1 n hw
      omega
    · split at hw
      · obtain ⟨j, _, rfl⟩ := List.mem_map.1 hw
        have := getD_in (k := j) (by decide) g2
        omega
      · cases hw
theorem RightI.words_mod {x : Img} (h : RightI x) (ho : x.Ok) : (wordsI x).map (· % 4294967296) = wordsI x := by
  have hi := h.words_in ho
  generalize wordsI x = l at *
  clear h ho
  induction l with
  | nil => rfl
  | cons a l ih =>
    rw [List.map_cons, ih (fun n hn => hi n (by simp [hn])), Int.emod_eq_of_lt (hi a (by simp)).1 (hi a (by simp)).2]

set_option maxRecDepth 100000 in
theorem right10_any (v : ImgV) (x : Img) (w : World) (h : ImgAt w v x) :
    Calls Tryd.prog 31 #[.agg (imgCells v x).toArray] w fun e w' => e = .returned (.bool ((chkImg x).2 == 0)) ∧ Keep [] w w' := by
  have HC := fun W hk => Lib.hid (rcheck_any v x W (h.keep0 hk))
  have hb := img_box w v x
  have K0 := (Keep.refl [] w).alloc (.cells (imgCells v x).toArray 26)
  have HIL : Hid ((imgCells v x).length = 4) := show _ = _ from rfl
  have qI := Lib.hid hb.cellsAt
  clear h hb
  generalize chkImg x = r at *
  generalize imgCells v x = il at *
  go_enter Tryd.func31, Tryd.ntmps31
  go_wp2_with (refine wpList_load_agg rfl 26 (.tmp 1) rfl rfl (cs := il) (by rw [HIL.out]; exact agg_image) qI.out ?_)
  refine (HC _ K0).out.mono ?_
  rintro e w5 ⟨rfl, k5⟩
  rw [chkRes]
  go_wp2
  go_ret
  exact ⟨rfl, K0.then k5⟩
end Go.Proofs.YtfgjcjpemlgnmaaDoor
