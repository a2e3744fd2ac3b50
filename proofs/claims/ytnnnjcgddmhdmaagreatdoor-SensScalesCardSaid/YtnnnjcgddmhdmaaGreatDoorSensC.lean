/- How much longer tasks may take: the chapter's example, scaled images. No program in sight. No condition. Images one of whose tasks is another one, in memory. No condition. How much longer a task may take (sens's admitted, with; the law's admitted, with): is an image admitted, one whose task is another one. Condition: the table of math/bits lies where the program's text lays it. How long a task may take at the most (sens.Cost). Condition: the table of math/bits lies where the program's text lays it; few tasks, modes, edges. -/
import Derived.Test.YtnnnjcgddmhdmaaGreatDoorCertR
import Derived.Test.YtnnnjcgddmhdmaaGreatDoorImgCp
namespace Go.Proofs.YtnnnjcgddmhdmaaGreatDoor
open Go.RowKit

/-- Is an image admitted? -/
def admB (x : Img) : Bool := (admM x).2.2 == 0
/-- An image whose task k is another one. -/
def setT (x : Img) (k : Nat) (t : Tsk) : Img := ⟨x.res, x.tasks.set k t, x.modes, x.edges⟩
def costT (t : Tsk) (n : Int) : Tsk := { t with cost := n }
def dedT (t : Tsk) (n : Int) : Tsk := { t with ded := n }
theorem setT_self (x : Img) (k : Nat) (hk : k < x.tasks.length) : setT x k x.tasks[k] = x := by
  unfold setT
  rw [List.set_getElem_self]
theorem setT_cost (x : Img) (k : Nat) (hk : k < x.tasks.length) : setT x k (costT x.tasks[k] x.tasks[k].cost) = x := setT_self x k hk
theorem setT_ded (x : Img) (k : Nat) (hk : k < x.tasks.length) : setT x k (dedT x.tasks[k] x.tasks[k].ded) = x := setT_self x k hk
theorem setT_len (x : Img) (k : Nat) (t : Tsk) : (setT x k t).tasks.length = x.tasks.length := List.length_set ..
theorem setT_ok {x : Img} (h : x.Ok) (k : Nat) {t : Tsk} (hl : t.lon.length = 8) : (setT x k t).Ok := by
  refine ⟨fun u hu => ?_, h.offs, h.mp, h.set⟩
  rcases List.mem_or_eq_of_mem_set hu with h1 | rfl
  · exact h.lon u h1
  · exact hl
theorem adm_bound {x : Img} (h : admB x = true) {k : Nat} (hk : k < x.tasks.length) : 1 ≤ x.tasks[k].cost ∧ x.tasks[k].cost ≤ x.tasks[k].ded ∧ x.tasks[k].ded ≤ 4096 ∧ x.tasks.length ≤ 16 := by
  have h0 : (admM x).2.2 = 0 := by unfold admB at h; simpa using h
  have hc : (chkImg x).2 = 0 := by
    by_cases hc : (chkImg x).2 = 0
    · exact hc
    · rw [admM_bad hc] at h0; exact absurd h0 hc
  have hR := right_of hc
  have ht := hR.task _ (List.getElem_mem hk)
  have hp := (small_of hc).per _ (List.getElem_mem hk)
  unfold tskOk at ht
  simp only [Bool.and_eq_true, inR_iff] at ht
  have := (small_of hc).n
  omega

/-! A task's greatest cost, its least deadline. -/
structure CostOut (x : Img) (k : Nat) (t : Tsk) (n : Int) : Prop where
  lo : t.cost ≤ n
  hi : n ≤ t.ded
  yes : admB (setT x k (costT t n)) = true
  no : n = t.ded ∨ admB (setT x k (costT t (n + 1))) = false
structure DedOut (x : Img) (k : Nat) (t : Tsk) (n : Int) : Prop where
  lo : t.cost ≤ n
  hi : n ≤ t.ded
  yes : admB (setT x k (dedT t n)) = true
  no : n = t.cost ∨ admB (setT x k (dedT t (n - 1))) = false

/-! Scaled images. -/
def scaleT (t : Tsk) (p : Int) : Tsk := { t with cost := (t.cost * p + 999) / 1000 }
/-- An image whose first j tasks are scaled. -/
def scaleK (x : Img) (p : Int) (j : Nat) : Img := ⟨x.res, (x.tasks.take j).map (fun t => scaleT t p) ++ x.tasks.drop j, x.modes, x.edges⟩
def scaleI (x : Img) (p : Int) : Img := ⟨x.res, x.tasks.map (fun t => scaleT t p), x.modes, x.edges⟩
theorem scaleK_zero (x : Img) (p : Int) : scaleK x p 0 = x := by simp [scaleK]
theorem scaleK_all (x : Img) (p : Int) : scaleK x p x.tasks.length = scaleI x p := by simp [scaleK, scaleI]
theorem scaleK_len (x : Img) (p : Int) (j : Nat) : (scaleK x p j).tasks.length = x.tasks.length := by
  simp only [scaleK, List.length_append, List.length_map, List.length_take, List.length_drop]
  omega
theorem scaleK_at (x : Img) (p : Int) (j : Nat) (hj : j < x.tasks.length) : (scaleK x p j).tasks[j]'(by rw [scaleK_len]; exact hj) = x.tasks[j] := by
  have hl : ((x.tasks.take j).map (fun t => scaleT t p)).length = j := by simp; omega
  have : (scaleK x p j).tasks[j]? = some x.tasks[j] := by
    show ((x.tasks.take j).map (fun t => scaleT t p) ++ x.tasks.drop j)[j]? = _
    rw [List.getElem?_append_right (by omega), hl, Nat.sub_self, List.getElem?_drop, Nat.add_zero, List.getElem?_eq_getElem hj]
  obtain ⟨_, e⟩ := List.getElem?_eq_some_iff.1 this
  exact e
theorem scaleK_succ (x : Img) (p : Int) (j : Nat) (hj : j < x.tasks.length) : setT (scaleK x p j) j (scaleT x.tasks[j] p) = scaleK x p (j + 1) := by
  have hl : ((x.tasks.take j).map (fun t => scaleT t p)).length = j := by simp; omega
  unfold setT scaleK
  simp only
  congr 1
  rw [List.set_append_right _ _ (by omega), hl, Nat.sub_self, List.drop_eq_getElem_cons hj, List.set_cons_zero, List.take_succ_eq_append_getElem hj, List.map_append]
  simp
theorem scale_one {x : Img} (h : ∀ t ∈ x.tasks, 1 ≤ t.cost) : scaleI x 1000 = x := by
  have : x.tasks.map (fun t => scaleT t 1000) = x.tasks := by
    have h2 : ∀ l : List Tsk, (∀ t ∈ l, 1 ≤ t.cost) → l.map (fun t => scaleT t 1000) = l := fun l => by
      induction l with
      | nil => intro _; rfl
      | cons t l ih =>
        intro h
        have h1 := h t (by simp)
        rw [List.map_cons, ih (fun u hu => h u (by simp [hu]))]
        congr 1
        unfold scaleT
        rw [show (t.cost * 1000 + 999) / 1000 = t.cost by omega]
    exact h2 _ h
  unfold scaleI
  rw [this]
structure ScaleOut (x : Img) (n : Int) : Prop where
  lo : 1000 ≤ n
  hi : n ≤ 100000
  yes : admB (scaleI x n) = true
  no : n = 100000 ∨ admB (scaleI x (n + 1)) = false

/-! The chapter's example. -/
def exS (c : Int) : Img := ⟨0, [⟨10, 10, c, z8⟩], [⟨1, []⟩], []⟩
theorem exS_yes : ∀ c : Int, 2 ≤ c → c ≤ 10 → admB (exS c) = true := by
  have e2 : admB (exS 2) = true := by kernel_rfl
  have e3 : admB (exS 3) = true := by kernel_rfl
  have e4 : admB (exS 4) = true := by kernel_rfl
  have e5 : admB (exS 5) = true := by kernel_rfl
  have e6 : admB (exS 6) = true := by kernel_rfl
  have e7 : admB (exS 7) = true := by kernel_rfl
  have e8 : admB (exS 8) = true := by kernel_rfl
  have e9 : admB (exS 9) = true := by kernel_rfl
  have e10 : admB (exS 10) = true := by kernel_rfl
  intro c h1 h2
  have : c = 2 ∨ c = 3 ∨ c = 4 ∨ c = 5 ∨ c = 6 ∨ c = 7 ∨ c = 8 ∨ c = 9 ∨ c = 10 := by omega
  rcases this with rfl | rfl | rfl | rfl | rfl | rfl | rfl | rfl | rfl <;> assumption
theorem exS_no (c : Int) (h : 10 < c) : admB (exS c) = false := by
  cases e : admB (exS c) with
  | false => rfl
  | true =>
    have := adm_bound e (k := 0) (by simp [exS])
    simp only [exS, List.getElem_cons_zero] at this
    omega
theorem exS_cost {n : Int} (h : CostOut (exS 2) 0 ⟨10, 10, 2, z8⟩ n) : n = 10 := by
  obtain ⟨h1, h2, _, h4⟩ := h
  simp only at h1 h2 h4
  rcases h4 with h4 | h4
  · exact h4
  · rcases Int.lt_or_le n 10 with h5 | h5
    · have := exS_yes (n + 1) (by omega) (by omega)
      have e : setT (exS 2) 0 (costT ⟨10, 10, 2, z8⟩ (n + 1)) = exS (n + 1) := rfl
      rw [e, this] at h4
      cases h4
    · omega
theorem exS_scale {n : Int} (h : ScaleOut (exS 2) n) : n = 5000 := by
  obtain ⟨h1, h2, h3, h4⟩ := h
  have e : ∀ p : Int, scaleI (exS 2) p = exS ((2 * p + 999) / 1000) := fun _ => rfl
  rw [e] at h3
  have h5 : n ≤ 5000 := by
    rcases Int.lt_or_le 5000 n with h6 | h6
    · rw [exS_no _ (by omega)] at h3; cases h3
    · exact h6
  rcases h4 with h4 | h4
  · omega
  · rw [e] at h4
    rcases Int.lt_or_le n 5000 with h6 | h6
    · rw [exS_yes _ (by omega) (by omega)] at h4; cases h4
    · omega
end Go.Proofs.YtnnnjcgddmhdmaaGreatDoor

namespace Go.Proofs.YtnnnjcgddmhdmaaGreatDoor
open Go.RowKit

theorem flat_setS {α : Type} {cells : α → List Value} {size : Nat} : ∀ (l : List α), (∀ a ∈ l, (cells a).length = size) → ∀ (k j : Nat) (hk : k < l.length) (a' : α) (u : Value), j < size → cells a' = (cells l[k]).set j u →
    (l.flatMap cells).set (k * size + j) u = (l.set k a').flatMap cells
  | [], _, k, j, hk, a', u, hj, he => by simp at hk
  | a :: l, h, k, j, hk, a', u, hj, he => by
    have ha := h a (by simp)
    cases k with
    | zero =>
      rw [List.set_cons_zero, List.flatMap_cons, List.flatMap_cons, he, List.set_append_left _ _ (by omega), Nat.zero_mul, Nat.zero_add]; rfl
    | succ k =>
      rw [List.set_cons_succ, List.flatMap_cons, List.flatMap_cons, List.set_append_right _ _ (by rw [ha, Nat.add_mul]; omega), ha, show (k + 1) * size + j - size = k * size + j by rw [Nat.add_mul]; omega,
        flat_setS l (fun b hb => h b (by simp [hb])) k j (by simpa using hk) a' u hj (by simpa using he)]
theorem own_addrS {w : World} {B : Nat} {e : TypeId} {size n c : Nat} {A : Option Addr} {xs : List Value} (h : w.ownsRow B e size (.slice A n c) n xs) (hn : 0 < n) : ∃ g, A = some ⟨g, 0, none⟩ ∧ B ≤ g ∧ g < w.heap.size := by
  obtain ⟨g, cap, hv, h1, h2⟩ := h.form hn
  injection hv with hv
  exact ⟨g, hv, h1, h2⟩
/-- A store into a block of another type, a copy's own, leaves a row as it was. -/
theorem own_otherS {w : World} {B B' : Nat} {e e' : TypeId} {size size' n n' c' : Nat} {v : Value} {xs xs' : List Value} {g : Nat} (h : w.ownsRow B e size v n xs) (h' : w.ownsRow B' e' size' (.slice (some ⟨g, 0, none⟩) n' c') n' xs') (hne : e ≠ e') (i : Nat) (u : Value) : (w.setCell ⟨g, i, none⟩ u).ownsRow B e size v n xs :=
  own_keep h (keep_set w g i u) (fun b hb hm => by simp at hm; subst hm; exact own_own_ne h h' hne hb rfl)
/-- A cell of a copy's task is written. -/
theorem CopyAt.put {B : Nat} {w : World} {v : ImgV} {x : Img} (h : CopyAt B w v x) {g : Nat} (hg : v.ta = some ⟨g, 0, none⟩) {k j : Nat} (hk : k < x.tasks.length) (hj : j < 11) (t : Tsk) (u : Value) (hl : t.lon.length = 8) (he : tskCells t = (tskCells x.tasks[k]).set j u) :
    CopyAt B (w.setCell ⟨g, k * 11 + j, none⟩ u) v (setT x k t) := by
  have h1 := h.tasks
  rw [hg] at h1
  have st := (h1.stored (k * 11 + j) u).1
  have hcl : ∀ t ∈ x.tasks, (tskCells t).length = 11 := fun t ht => tskCells_len (h.ok.lon t ht)
  rw [flat_setS x.tasks hcl k j hk t u hj he] at st
  refine ⟨setT_ok h.ok k hl, h.ql, ?_, own_otherS h.modes h1 (by decide) _ _, own_otherS h.edges h1 (by decide) _ _, fun i a b => own_otherS (h.queues i a b) h1 (by decide) _ _, ?_, h.lm, h.le, h.lq⟩
  · rw [setT_len, hg]; exact st
  · rw [setT_len]; exact h.lt
/-- The cells of a copy's task: they may be written. -/
theorem CopyAt.at_ {B : Nat} {w : World} {v : ImgV} {x : Img} (h : CopyAt B w v x) {k : Nat} (hk : k < x.tasks.length) :
    ∃ g, v.ta = some ⟨g, 0, none⟩ ∧ B ≤ g ∧ (∀ j, w.frozen? ⟨g, j, none⟩ = false) ∧ w.cell? ⟨g, k * 11 + 1, none⟩ = some (.int .i64 x.tasks[k].ded) ∧ w.cell? ⟨g, k * 11 + 2, none⟩ = some (.int .i64 x.tasks[k].cost) := by
  have h1 := h.tasks
  obtain ⟨g, hg, hB, _⟩ := own_addrS h1 (by omega)
  rw [hg] at h1
  have hcl : ∀ t ∈ x.tasks, (tskCells t).length = 11 := fun t ht => tskCells_len (h.ok.lon t ht)
  refine ⟨g, hg, hB, fun j => h1.frozenAt j, ?_, ?_⟩
  · exact (h1.cellAt _ (by omega)).trans (by rw [flat_at x.tasks hcl k 1 hk (by decide)]; rfl)
  · exact (h1.cellAt _ (by omega)).trans (by rw [flat_at x.tasks hcl k 2 hk (by decide)]; rfl)
/-- A row of the call's own as a block. -/
theorem own_blkS {w : World} {B : Nat} {e : TypeId} {size n c : Nat} {g : Nat} {xs : List Value} (h : w.ownsRow B e size (.slice (some ⟨g, 0, none⟩) n c) n xs) : ∃ cur, Blk w g e cur ∧ n * size ≤ cur.size ∧ ∀ (j : Nat) (u : Value), xs[j]? = some u → cur[j]? = some u := by
  obtain ⟨hl, h2 | ⟨g', cap, cur, hv, _, hh, hn, _, hs, ht⟩⟩ := h
  · cases h2.1
  · injection hv with h1 h2 h3
    injection h1 with h1
    injection h1 with h1 _ _
    subst h1
    refine ⟨cur, hh, by rw [hs]; exact Nat.mul_le_mul_right _ hn, fun j u hj => ?_⟩
    rw [← ht, List.getElem?_take] at hj
    split at hj
    · simpa using hj
    · cases hj
/-- A whole element stored into a block that holds a row. -/
theorem reads_splice {w' : World} {g e : Nat} {α : Type} {cells : α → List Value} {size : Nat} {l : List α} {cur : Array Value} (hcl : ∀ a ∈ l, (cells a).length = size) (hcur : ∀ (j : Nat) (u : Value), (l.flatMap cells)[j]? = some u → cur[j]? = some u) {k : Nat} (hk : k < l.length) (a' : α) (ha : (cells a').length = size)
    (hsz : l.length * size ≤ cur.size) (hb : Blk w' g e (splice cur (k * size) (cells a'))) : Reads w' size (some ⟨g, 0, none⟩) (l.set k a').length ((l.set k a').flatMap cells) := by
  have hlen : ∀ m : List α, (∀ a ∈ m, (cells a).length = size) → (m.flatMap cells).length = m.length * size := fun m hm => by
    induction m with
    | nil => simp
    | cons a m ih =>
      rw [List.flatMap_cons, List.length_append, hm a (by simp), ih (fun b hb => hm b (by simp [hb])), List.length_cons, Nat.add_mul]
      omega
  have hcl' : ∀ a ∈ l.set k a', (cells a).length = size := fun a h => by
    rcases List.mem_or_eq_of_mem_set h with h1 | rfl
    · exact hcl a h1
    · exact ha
  have hks : k * size + size ≤ l.length * size := by
    have : (k + 1) * size ≤ l.length * size := Nat.mul_le_mul_right _ hk
    rw [Nat.add_mul] at this
    omega
  refine ⟨hlen _ hcl', fun _ => ⟨g, 0, rfl, hb.lt, fun j u hu => ?_⟩⟩
  rw [Nat.zero_add, hb.cell, splice_get _ _ _ _ (by omega)]
  have hsp : (l.set k a').flatMap cells = (l.take k).flatMap cells ++ (cells a' ++ (l.drop (k + 1)).flatMap cells) := by
    rw [List.set_eq_take_append_cons_drop, if_pos hk, List.flatMap_append, List.flatMap_cons]
  have hsp0 : l.flatMap cells = (l.take k).flatMap cells ++ (cells l[k] ++ (l.drop (k + 1)).flatMap cells) := by
    conv => lhs; rw [← List.take_append_drop k l, List.drop_eq_getElem_cons hk]
    rw [List.flatMap_append, List.flatMap_cons]
  have hpre : ((l.take k).flatMap cells).length = k * size := by
    rw [hlen _ (fun a h => hcl a (List.mem_of_mem_take h)), List.length_take, Nat.min_eq_left (by omega)]
  have hlk := hcl l[k] (List.getElem_mem hk)
  rw [hsp] at hu
  by_cases h1 : j < k * size
  · rw [if_neg (by omega)]
    refine hcur j u ?_
    rw [hsp0, List.getElem?_append_left (by omega)]
    rwa [List.getElem?_append_left (by omega)] at hu
  · by_cases h2 : j < k * size + size
    · rw [if_pos (by omega)]
      rw [List.getElem?_append_right (by omega), List.getElem?_append_left (by omega), hpre] at hu
      exact hu
    · rw [if_neg (by omega)]
      refine hcur j u ?_
      rw [hsp0, List.getElem?_append_right (by omega), List.getElem?_append_right (by omega), hpre, hlk]
      rw [List.getElem?_append_right (by omega), List.getElem?_append_right (by omega), hpre, ha] at hu
      exact hu
end Go.Proofs.YtnnnjcgddmhdmaaGreatDoor

namespace Go.Proofs.YtnnnjcgddmhdmaaGreatDoor
open Go.RowKit
attribute [local go_sem] Oper.semAt_some

theorem crtS_one (v : CrtV) (c : Crt) : ∀ u ∈ crtCells v c, u.oneCell' = true := by
  intro u hu
  simp [crtCells] at hu
  rcases hu with rfl | rfl <;> rfl
theorem imgS_one (v : ImgV) (x : Img) : ∀ u ∈ imgCells v x, u.oneCell' = true := by
  intro u hu
  simp [imgCells] at hu
  rcases hu with rfl | rfl | rfl | rfl <;> rfl
theorem imgCells_setT (v : ImgV) (x : Img) (k : Nat) (t : Tsk) : imgCells v (setT x k t) = imgCells v x := by
  unfold imgCells
  rw [setT_len]; rfl
set_option maxRecDepth 100000 in
set_option maxHeartbeats 1000000 in
theorem sadm_any (v : ImgV) (x : Img) (w : World) (hTb : Tab w) (h : ImgAt w v x) :
    Calls Tryz.prog 18 #[.agg (imgCells v x).toArray] w fun e w' => e = .returned (.bool (admB x)) ∧ Keep [] w w' := by
  obtain ⟨W0, hW0⟩ : ∃ W0, w.alloc (.cells (imgCells v x).toArray 26) = W0 := ⟨_, rfl⟩
  have b0 : Blk W0 w.heap.size 26 (imgCells v x).toArray := by rw [← hW0]; exact img_box w v x
  have K0 : Keep [] w W0 := by rw [← hW0]; exact (Keep.refl [] w).alloc _
  have HIC : Hid ((imgCells v x).length = 4) := show _ = _ from rfl
  have HCI := Lib.hid b0.cellsAt
  have HA := Lib.hid (admit_any v x W0 (hTb.keep0 K0) (h.keep0 K0))
  have HB : Hid (admB x = ((admM x).2.2 == 0)) := show _ = _ from rfl
  have HK0 := Lib.hid K0
  have HW := Lib.hid hW0
  clear h hTb K0 hW0 b0
  generalize imgCells v x = il at *
  generalize admM x = r at *
  obtain ⟨d, at_, er⟩ := r
  simp only at HB
  go_enter Tryz.func18, Tryz.ntmps18
  go_wp2_with (first
    | rw [HW.out]
    | (refine wpList_load_agg rfl 26 (.tmp 1) rfl rfl (cs := il) (by rw [HIC.out]; exact agg_image) HCI.out ?_))
  refine HA.out.mono ?_
  rintro e w1 ⟨dv, rfl, hd, k1⟩
  have HDC : Hid ((crtCells dv d).length = 2) := show _ = _ from rfl
  have hone : Hid (∀ u ∈ crtCells dv d, u.oneCell' = true) := crtS_one dv d
  have HK1 := Lib.hid k1
  clear hd k1 HA HCI
  simp only
  generalize crtCells dv d = dl at *
  go_wp2_with (refine stop_store 58 (.tmp 3) (.tmp 9) rfl ?_)
  constructor
  refine wpList_store_all rfl 58 (.tmp 3) (.tmp 9) rfl rfl rfl (vs := dl) (by rw [HDC.out]; exact agg_cert.2) (Blk.new _ _ _) hone.out ?_ ?_
  · rw [HDC.out]; rfl
  intro w3 d3 k3
  have HK3 := Lib.hid (HK0.out.then (HK1.out.then (((Keep.refl [] w1).alloc _).trans k3 (fun y hy hlt => by simp at hy; omega))))
  clear k3 d3
  by_cases hz : er = 0
  · subst hz
    have HX : Hid (admB x = true) := by show _ = _; rw [HB.out]; rfl
    clear HB
    go_wp2
    go_ret
    exact ⟨by rw [HX.out]; rfl, HK3.out⟩
  · have hz1 : (er == 0) = false := by simpa using hz
    have HX : Hid (admB x = false) := by show _ = _; rw [HB.out, hz1]
    clear HB hz
    go_wp2
    go_ret
    exact ⟨by rw [HX.out]; rfl, HK3.out⟩
set_option maxRecDepth 100000 in
set_option maxHeartbeats 1000000 in
theorem radm_any (v : ImgV) (x : Img) (w : World) (h : ImgAt w v x) :
    Calls Tryz.prog 8 #[.agg (imgCells v x).toArray] w fun e w' => e = .returned (.bool (admB x)) ∧ Keep [] w w' := by
  obtain ⟨W0, hW0⟩ : ∃ W0, w.alloc (.cells (imgCells v x).toArray 26) = W0 := ⟨_, rfl⟩
  have b0 : Blk W0 w.heap.size 26 (imgCells v x).toArray := by rw [← hW0]; exact img_box w v x
  have K0 : Keep [] w W0 := by rw [← hW0]; exact (Keep.refl [] w).alloc _
  have HIC : Hid ((imgCells v x).length = 4) := show _ = _ from rfl
  have HCI := Lib.hid b0.cellsAt
  have HA := Lib.hid (radmit_any v x W0 (h.keep0 K0))
  have HB : Hid (admB x = ((admM x).2.2 == 0)) := show _ = _ from rfl
  have HK0 := Lib.hid K0
  have HW := Lib.hid hW0
  clear h K0 hW0 b0
  generalize imgCells v x = il at *
  generalize admM x = r at *
  obtain ⟨d, at_, er⟩ := r
  simp only at HB HA
  go_enter Tryz.func8, Tryz.ntmps8
  go_wp2_with (first
    | rw [HW.out]
    | (refine wpList_load_agg rfl 26 (.tmp 1) rfl rfl (cs := il) (by rw [HIC.out]; exact agg_image) HCI.out ?_))
  refine HA.out.mono ?_
  rintro e w1 ⟨rfl, k1⟩
  have HK3 := Lib.hid (HK0.out.then k1)
  clear k1 HA HCI
  by_cases hz : er = 0
  · subst hz
    have HX : Hid (admB x = true) := by show _ = _; rw [HB.out]; rfl
    clear HB
    go_wp2
    go_ret
    exact ⟨by rw [HX.out]; rfl, HK3.out⟩
  · have hz1 : (er == 0) = false := by simpa using hz
    have HX : Hid (admB x = false) := by show _ = _; rw [HB.out, hz1]
    clear HB hz
    go_wp2
    go_ret
    exact ⟨by rw [HX.out]; rfl, HK3.out⟩
/-- An image whose task k is another one is answered. -/
def RetSet (w : World) (x : Img) (e : Ending) (w' : World) : Prop := ∃ v', e = .returned (.agg (imgCells v' x).toArray) ∧ ImgAt w' v' x ∧ Keep [] w w'
set_option maxRecDepth 100000 in
set_option maxHeartbeats 2000000 in
theorem swith_any (v : ImgV) (x : Img) (k : Nat) (n : Int) (w : World) (h : ImgAt w v x) (hk : k < x.tasks.length) (g1 : x.tasks.length ≤ 40) (g2 : x.modes.length ≤ 20) (g3 : x.edges.length ≤ 60) (g4 : ∀ m ∈ x.modes, m.qs.length ≤ 20) :
    Calls Tryz.prog 19 #[.agg (imgCells v x).toArray, .int .i64 (k : Int), .int .i64 n] w (RetSet w (setT x k (costT x.tasks[k] n))) := by
  obtain ⟨W0, hW0⟩ : ∃ W0, (w.alloc (.cells (imgCells v x).toArray 26)).alloc (.cells #[.int .i64 0, .slice none 0 0, .slice none 0 0, .slice none 0 0] 26) = W0 := ⟨_, rfl⟩
  have b0 : Blk W0 w.heap.size 26 (imgCells v x).toArray := by rw [← hW0]; exact (img_box w v x).alloc _
  have b1 : Blk W0 (w.heap.size + 1) 26 #[.int .i64 0, .slice none 0 0, .slice none 0 0, .slice none 0 0] := by rw [← hW0]; exact Blk.new1 _ _ _ _
  have K0 : Keep [] w W0 := by rw [← hW0]; exact ((Keep.refl [] w).alloc _).alloc _
  have hz0 : W0.heap.size = w.heap.size + 2 := by rw [← hW0]; simp
  have HIC : Hid ((imgCells v x).length = 4) := show _ = _ from rfl
  have HCI := Lib.hid b0.cellsAt
  have HC := Lib.hid (copy_any v x W0 (h.keep0 K0) g1 g2 g3 g4)
  have hlon : (costT x.tasks[k] n).lon.length = 8 := show x.tasks[k].lon.length = 8 from h.ok.lon x.tasks[k] (List.getElem_mem hk)
  have HLO := Lib.hid hlon
  have HB0 := fun w' (k : Keep [] W0 w') => Lib.hid (b0.keep0 k)
  have HB1 := fun w' (k : Keep [] W0 w') => Lib.hid (b1.keep0 k)
  have HK0 := Lib.hid K0
  have HW := Lib.hid hW0
  clear h K0 hW0 b0 b1 hlon
  generalize imgCells v x = il at *
  go_enter Tryz.func19, Tryz.ntmps19
  go_wp2_with (first
    | rw [HW.out]
    | (refine wpList_load_agg rfl 26 (.tmp 3) rfl rfl (cs := il) (by rw [HIC.out]; exact agg_image) HCI.out ?_))
  refine HC.out.mono ?_
  rintro e w1 ⟨v', rfl, hc, k1⟩
  have HJC : Hid ((imgCells v' x).length = 4) := show _ = _ from rfl
  have hone : Hid (∀ u ∈ imgCells v' x, u.oneCell' = true) := imgS_one v' x
  have c1l : (imgCells v' x)[1]? = some (.slice v'.ta x.tasks.length v'.tc) := rfl
  have d0 := (HB0 w1 k1).out
  have d1 := (HB1 w1 k1).out
  have hIS := imgCells_setT v' x k (costT x.tasks[k] n)
  generalize hjl : imgCells v' x = jl at *
  go_wp2_with (refine stop_store 26 (.tmp 3) (.tmp 8) rfl ?_)
  constructor
  refine wpList_store_all rfl 26 (.tmp 3) (.tmp 8) rfl rfl rfl (vs := jl) (by rw [HJC.out]; exact agg_image.2) d0 hone.out ?_ ?_
  · rw [HJC.out]; show 4 = il.toArray.size; rw [List.size_toArray, HIC.out]
  intro w2 e0 k2
  have hc2 := hc.keep k2 (fun g hg => by simp at hg; omega)
  have e1 := d1.keep k2 (by simp)
  obtain ⟨g, hg, hgB, hfr, _, hcc⟩ := hc2.at_ hk
  have hf := hfr (k * 11 + 2)
  have hp := hc2.put hg hk (show 2 < 11 by decide) (costT x.tasks[k] n) (.int .i64 n) HLO.out rfl
  have c1 := e0.at_ c1l
  rw [hg] at c1
  have ks := keep_set w2 g (k * 11 + 2) (.int .i64 n)
  have f0 := e0.keep ks (by simp; omega)
  have f1 := e1.keep ks (by simp; omega)
  have KE : Keep [] w (w2.setCell ⟨g, k * 11 + 2, none⟩ (.int .i64 n)) := ((HK0.out.then k1).trans k2 (fun y hy hlt => by simp at hy; omega)).trans ks (fun y hy hlt => by simp at hy; omega)
  have p0 : (0 : Int) ≤ (k : Int) := by omega
  have p1 : (k : Int) < (x.tasks.length : Int) := by omega
  have HP := Lib.hid hp
  have HF0 := Lib.hid f0.cellsAt
  have HF1 := Lib.hid f1
  have HKE := Lib.hid KE
  have HZ0 := Lib.hid hz0
  have HIS := Lib.hid hIS
  clear hc hc2 k1 k2 hp e0 e1 d0 d1 ks f0 f1 KE HCI HC HB0 HB1 hfr hjl hIS hz0
  generalize x.tasks[k].cost = zc at *
  go_wp2_with (first
    | (refine wpList_load_agg rfl 26 (.tmp 3) rfl rfl (cs := jl) (by rw [HJC.out]; exact agg_image) HF0.out ?_)
    | (refine stop_store 26 (.tmp 6) (.tmp 15) rfl ?_))
  constructor
  refine wpList_store_all rfl 26 (.tmp 6) (.tmp 15) rfl rfl rfl (vs := jl) (by rw [HJC.out]; exact agg_image.2) HF1.out hone.out ?_ ?_
  · rw [HJC.out]; rfl
  intro w5 e5 k5
  go_wp2
  refine bodyPost_ret (results_blk rfl _ rfl e5 (by rw [HJC.out]; exact agg_image)) rfl ?_
  have K5 : Keep [] w w5 := HKE.out.trans k5 (fun y hy hlt => by simp at hy; omega)
  exact ⟨v', by rw [HIS.out], (HP.out.keep k5 (fun y hy => by simp at hy; have := HZ0.out; omega)).img, K5⟩
end Go.Proofs.YtnnnjcgddmhdmaaGreatDoor

namespace Go.Proofs.YtnnnjcgddmhdmaaGreatDoor
open Go.RowKit
attribute [local go_sem] Oper.semAt_some

/-- Few tasks, modes, edges, queues. -/
structure FewOk (x : Img) : Prop where
  t : x.tasks.length ≤ 40
  m : x.modes.length ≤ 20
  e : x.edges.length ≤ 60
  q : ∀ m ∈ x.modes, m.qs.length ≤ 20
theorem fewOk_of {x : Img} (h : greatImg x = false) : FewOk x := by
  unfold greatImg at h
  simp only [Bool.or_eq_false_iff, decide_eq_false_iff_not, List.any_eq_false, decide_eq_true_eq] at h
  obtain ⟨⟨⟨h1, h2⟩, h3⟩, h4⟩ := h
  exact ⟨by omega, by omega, by omega, fun m hm => by have := h4 m hm; omega⟩
theorem up_mid {lo hi : Int} (h0 : 0 ≤ lo) (h : lo < hi) : lo < (lo + hi + 1).tdiv 2 ∧ (lo + hi + 1).tdiv 2 ≤ hi := by
  rw [Int.tdiv_eq_ediv_of_nonneg (by omega)]
  omega
set_option maxRecDepth 100000 in
set_option maxHeartbeats 2000000 in
theorem scost_no (v : ImgV) (x : Img) (task : Int) (w : World) (hTb : Tab w) (h : ImgAt w v x) (hno : task < 0 ∨ (x.tasks.length : Int) ≤ task ∨ admB x = false) :
    Calls Tryz.prog 7 #[.agg (imgCells v x).toArray, .int .i64 task] w fun e w' => e = .returned (.tuple #[.int .i64 0, .bool false]) ∧ Keep [] w w' := by
  obtain ⟨W0, hW0⟩ : ∃ W0, w.alloc (.cells (imgCells v x).toArray 26) = W0 := ⟨_, rfl⟩
  have b0 : Blk W0 w.heap.size 26 (imgCells v x).toArray := by rw [← hW0]; exact img_box w v x
  have K0 : Keep [] w W0 := by rw [← hW0]; exact (Keep.refl [] w).alloc _
  have HIC : Hid ((imgCells v x).length = 4) := show _ = _ from rfl
  have HCI := Lib.hid b0.cellsAt
  have c1 := img_c1 b0
  have HA := Lib.hid (sadm_any v x W0 (hTb.keep0 K0) (h.keep0 K0))
  have HK0 := Lib.hid K0
  have HW := Lib.hid hW0
  clear h hTb K0 hW0 b0
  generalize imgCells v x = il at *
  generalize x.tasks.length = n at *
  by_cases h1 : task < 0
  · have q0 : decide (task < 0) = true := decide_eq_true h1
    clear hno
    go_enter Tryz.func7, Tryz.ntmps7
    go_wp2_with (rw [HW.out])
    go_ret2
    exact ⟨rfl, HK0.out⟩
  · have q0 : decide (task < 0) = false := decide_eq_false h1
    by_cases h2 : (n : Int) ≤ task
    · have q1 : decide ((n : Int) ≤ task) = true := decide_eq_true h2
      clear hno
      go_enter Tryz.func7, Tryz.ntmps7
      go_wp2_with (rw [HW.out])
      go_ret2
      exact ⟨rfl, HK0.out⟩
    · have q1 : decide ((n : Int) ≤ task) = false := decide_eq_false h2
      have h3 : admB x = false := by rcases hno with h4 | h4 | h4; exact absurd h4 h1; exact absurd h4 h2; exact h4
      rw [h3] at HA
      clear hno h3
      go_enter Tryz.func7, Tryz.ntmps7
      go_wp2_with (first
        | rw [HW.out]
        | (refine wpList_agg_gd rfl 26 (.tmp 2) rfl rfl (cs := il) (by rw [HIC.out]; exact agg_image) HCI.out ?_))
      refine HA.out.mono ?_
      rintro e w1 ⟨rfl, k1⟩
      go_wp2
      go_ret2
      exact ⟨rfl, HK0.out.then k1⟩
set_option maxRecDepth 100000 in
set_option maxHeartbeats 4000000 in
theorem scost_yes (v : ImgV) (x : Img) (k : Nat) (w : World) (hTb : Tab w) (h : ImgAt w v x) (hG : FewOk x) (hk : k < x.tasks.length) (ha : admB x = true) :
    Calls Tryz.prog 7 #[.agg (imgCells v x).toArray, .int .i64 (k : Int)] w fun e w' => ∃ n, e = .returned (.tuple #[.int .i64 n, .bool true]) ∧ CostOut x k x.tasks[k] n ∧ Keep [] w w' := by
  obtain ⟨d1, d2, d3, d4⟩ := adm_bound ha hk
  have hl := h.lt
  unfold maxLen at hl
  obtain ⟨W0, hW0⟩ : ∃ W0, w.alloc (.cells (imgCells v x).toArray 26) = W0 := ⟨_, rfl⟩
  have b0 : Blk W0 w.heap.size 26 (imgCells v x).toArray := by rw [← hW0]; exact img_box w v x
  have K0 : Keep [] w W0 := by rw [← hW0]; exact (Keep.refl [] w).alloc _
  have HIC : Hid ((imgCells v x).length = 4) := show _ = _ from rfl
  have HCI := fun w' (k : Keep [] W0 w') => Lib.hid (b0.keep0 k).cellsAt
  have c1 := img_c1 b0
  obtain ⟨b, o, hA, hbw, hcs⟩ := h.task (by omega)
  rw [hA] at c1
  have hbw0 := Nat.lt_of_lt_of_le hbw K0.size
  have hcd := ((hcs k hk).keep0 K0 hbw) 1 (.int .i64 x.tasks[k].ded) rfl
  have hcc := ((hcs k hk).keep0 K0 hbw) 2 (.int .i64 x.tasks[k].cost) rfl
  have hF : ∀ w', Keep [] W0 w' → w'.cell? ⟨w.heap.size, 1, none⟩ = some (.slice (some ⟨b, o, none⟩) x.tasks.length v.tc) ∧ w'.cell? ⟨b, o + k * 11 + 1, none⟩ = some (.int .i64 x.tasks[k].ded) ∧ w'.cell? ⟨b, o + k * 11 + 2, none⟩ = some (.int .i64 x.tasks[k].cost) := fun w' hk' =>
    ⟨(hk'.cell (p := ⟨w.heap.size, 1, none⟩) b0.lt (by simp)).trans c1, (hk'.cell (p := ⟨b, o + k * 11 + 1, none⟩) hbw0 (by simp)).trans hcd, (hk'.cell (p := ⟨b, o + k * 11 + 2, none⟩) hbw0 (by simp)).trans hcc⟩
  have HA := Lib.hid (sadm_any v x W0 (hTb.keep0 K0) (h.keep0 K0))
  have HWi := fun (n : Int) w' (k' : Keep [] W0 w') => Lib.hid (swith_any v x k n w' (h.keep0 (K0.then k')) hk hG.t hG.m hG.e hG.q)
  have HAd := fun (y : Img) (vy : ImgV) w' (k' : Keep [] W0 w') (hy : ImgAt w' vy y) => Lib.hid (sadm_any vy y w' (hTb.keep0 (K0.then k')) hy)
  have HST : Hid (admB (setT x k (costT x.tasks[k] x.tasks[k].cost)) = true) := by show _ = _; rw [setT_cost x k hk]; exact ha
  have HCO : Hid (∀ n, x.tasks[k].cost ≤ n → n ≤ x.tasks[k].ded → admB (setT x k (costT x.tasks[k] n)) = true → (n = x.tasks[k].ded ∨ admB (setT x k (costT x.tasks[k] (n + 1))) = false) → CostOut x k x.tasks[k] n) := fun n a b c d => ⟨a, b, c, d⟩
  have p0 : (0 : Int) ≤ (k : Int) := by omega
  have p1 : (k : Int) < (x.tasks.length : Int) := by omega
  have q0 : decide ((k : Int) < 0) = false := decide_eq_false (by omega)
  have q1 : decide ((x.tasks.length : Int) ≤ (k : Int)) = false := decide_eq_false (by omega)
  have q2 : decide (x.tasks.length ≤ k) = false := decide_eq_false (by omega)
  rw [ha] at HA
  have HK0 := Lib.hid K0
  have HW := Lib.hid hW0
  have HD := Lib.hid (And.intro d1 (And.intro d2 d3))
  clear h hTb K0 hW0 b0 hcs hcd hcc hA ha d1 d2 d3 d4 hG
  generalize hQ : (fun n => admB (setT x k (costT x.tasks[k] n))) = Q at *
  have HQ : Hid (∀ n, admB (setT x k (costT x.tasks[k] n)) = Q n) := fun n => by rw [← hQ]
  clear hQ
  generalize hil : imgCells v x = il at *
  have HIL := Lib.hid hil
  clear hil
  generalize hct : x.tasks[k].cost = ct at *
  generalize hdd : x.tasks[k].ded = dd at *
  have HCT := Lib.hid hct
  have HDD := Lib.hid hdd
  clear hct hdd
  go_enter Tryz.func7, Tryz.ntmps7
  go_wp2_with (first
    | rw [HW.out]
    | (refine wpList_agg_gd rfl 26 (.tmp 2) rfl rfl (cs := il) (by rw [HIC.out]; exact agg_image) (HCI _ (Keep.refl _ _)).out ?_))
  refine HA.out.mono ?_
  rintro e w1 ⟨rfl, k1⟩
  have hF1 : ∀ w', Keep [] w1 w' → w'.cell? ⟨w.heap.size, 1, none⟩ = some (.slice (some ⟨b, o, none⟩) x.tasks.length v.tc) ∧ w'.cell? ⟨b, o + k * 11 + 1, none⟩ = some (.int .i64 dd) ∧ w'.cell? ⟨b, o + k * 11 + 2, none⟩ = some (.int .i64 ct) := fun w' hk' => hF w' (k1.then hk')
  have HK1 := Lib.hid k1
  clear k1 HA hF c1
  go_wp2
  refine wp_region_flow (Keep [] w1) rfl (by kernel_rfl) (Keep.refl _ _).drew ?_
  repeat (refine fl_val (v := ?_) (by rfl) ?_ ?_; rotate_left; (intro w' hS; obtain ⟨f1,f2,f3⟩ := hF1 w' hS; go_simp; with_reducible rfl); simp only [Act.put, List.setIfInBounds_toArray, List.set_cons_zero, List.set_cons_succ])
  refine fl_nil ?_
  intro wS hS
  have HKS := Lib.hid (HK1.out.then hS)
  clear hS hF1
  go_wp2
  go_loopw [6, 7] (fun a b wr => ∃ lo hi : Int, (ct ≤ lo ∧ lo ≤ hi ∧ hi ≤ dd) ∧ a = .int .i64 lo ∧ b = .int .i64 hi ∧ Q lo = true ∧ (hi = dd ∨ Q (hi + 1) = false) ∧ Keep [] W0 wr) (fun a b _ => (intOf b - intOf a).toNat)
  case atStart => exact ⟨ct, dd, ⟨Int.le_refl _, HD.out.2.1, Int.le_refl _⟩, rfl, rfl, by rw [← HQ.out]; exact HST.out, .inl rfl, HKS.out⟩
  case round =>
    obtain ⟨lo, hi, hb, rfl, rfl, hy, hn, hK⟩ := hrel
    have hd := HD.out
    by_cases hlt : lo < hi
    · have z0 : decide (lo < hi) = true := decide_eq_true hlt
      obtain ⟨m1, m2⟩ := up_mid (by omega) hlt
      have hwr : IntKind.i64.wrap (lo + hi) = lo + hi := IntWalk.i64_in _ (by omega)
      have hw1 : IntKind.i64.wrap (lo + hi + 1) = lo + hi + 1 := IntWalk.i64_in _ (by omega)
      have hwm : IntKind.i64.wrap ((lo + hi + 1).tdiv 2) = (lo + hi + 1).tdiv 2 := IntWalk.i64_in _ (by omega)
      generalize hm : (lo + hi + 1).tdiv 2 = m at *
      have HWm := HWi m wr hK
      have hcI := HCI wr hK
      have hq := HQ.out m
      have HK := Lib.hid hK
      have HY := Lib.hid hy
      have HN := Lib.hid hn
      clear hK hy hn
      generalize hyy : setT x k (costT x.tasks[k] m) = y at *
      clear hyy
      go_wp2_with (refine wpList_load_agg rfl 26 (.tmp 2) rfl rfl (cs := il) (by rw [HIC.out]; exact agg_image) hcI.out ?_)
      refine HWm.out.mono ?_
      rintro e w2 ⟨vy, rfl, hy2, k2⟩
      have HAy := HAd y vy w2 (HK.out.then k2) hy2
      rw [hq] at HAy
      have HK2 := Lib.hid (HK.out.then k2)
      clear hy2 k2 HWm hcI
      generalize imgCells vy y = yl at *
      go_wp2_with fail
      refine HAy.out.mono ?_
      rintro e w3 ⟨rfl, k3⟩
      have HK3 := Lib.hid (HK2.out.then k3)
      clear k3 HAy hq
      cases hqm : Q m with
      | true =>
        have HQM := Lib.hid hqm
        clear hqm
        go_wp2
        go_roundw
        case rel => exact ⟨m, hi, by omega, rfl, rfl, HQM.out, HN.out, HK3.out⟩
        case measure => simp [intOf] <;> omega
      | false =>
        have hw2 : IntKind.i64.wrap (m - 1) = m - 1 := IntWalk.i64_in _ (by omega)
        have HQM : Hid (Q (m - 1 + 1) = false) := by show _ = _; rw [Int.sub_add_cancel]; exact hqm
        clear hqm
        go_wp2
        go_roundw
        case rel => exact ⟨lo, m - 1, by omega, rfl, rfl, HY.out, .inr HQM.out, HK3.out⟩
        case measure => simp [intOf] <;> omega
    · have z0 : decide (lo < hi) = false := decide_eq_false hlt
      obtain rfl : lo = hi := by omega
      have HK := Lib.hid hK
      have HX := Lib.hid (HCO.out lo (by omega) (by omega) (by rw [HQ.out]; exact hy) (by rw [HQ.out]; exact hn))
      clear hK hy hn
      go_wp2
      go_ret2
      exact ⟨lo, rfl, HX.out, HK0.out.then HK.out⟩
end Go.Proofs.YtnnnjcgddmhdmaaGreatDoor
