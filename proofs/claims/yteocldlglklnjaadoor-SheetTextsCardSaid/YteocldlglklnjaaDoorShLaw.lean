/- SheetRows: the law's walk. Condition: the table of math/bits lies where the program's text lays it. -/
import Derived.Test.YteocldlglklnjaaDoorShAlive
import Derived.Test.YteocldlglklnjaaDoorShGreat
import Derived.Test.YteocldlglklnjaaDoorSmallR
namespace Go.Proofs.YteocldlglklnjaaDoor
open Go.RowKit
attribute [local go_sem] Oper.semAt_some

theorem slice_intsR : SliceOf Tryd.prog 33 40 1 24 := ⟨Tryd.underlying33, by kernel_rfl, by decide⟩
/-- A row of ints in memory, in a block of ints. -/
structure IntAt (w : World) (A : Option Addr) (l : List Int) : Prop where
  rd : Reads w 1 A l.length (iv l)
  ty : 0 < l.length → ∃ b o cs fr, A = some ⟨b, o, none⟩ ∧ w.heap[b]? = some (.cells cs 3 fr)
theorem IntAt.of_blk {w : World} {g : Nat} {l : List Int} (h : Blk w g 3 (iv l).toArray) : IntAt w (some ⟨g, 0, none⟩) l := by
  have := reads_blk h
  rw [iv_len] at this
  exact ⟨this, fun _ => ⟨g, 0, _, _, rfl, h⟩⟩
theorem IntAt.same {w w' : World} {A : Option Addr} {l : List Int} (h : IntAt w A l) (hz : w.heap.size ≤ w'.heap.size) (hk : ∀ (g : Nat) cs fr, w.heap[g]? = some (.cells cs 3 fr) → w'.heap[g]? = w.heap[g]?) : IntAt w' A l := by
  refine ⟨⟨h.rd.1, fun h0 => ?_⟩, fun h0 => ?_⟩
  · obtain ⟨b, o, cs, fr, e, hb⟩ := h.ty h0
    obtain ⟨b', o', e', hb', hc⟩ := h.rd.2 h0
    rw [e] at e'
    cases e'
    exact ⟨b, o, e, by omega, fun j u hu => (World.cell?_of_block (a := ⟨b, o + j, none⟩) (hk b cs fr hb)).trans (hc j u hu)⟩
  · obtain ⟨b, o, cs, fr, e, hb⟩ := h.ty h0
    exact ⟨b, o, cs, fr, e, (hk b cs fr hb).trans hb⟩
theorem IntAt.keep0 {w w' : World} {A : Option Addr} {l : List Int} (h : IntAt w A l) (k : Keep [] w w') : IntAt w' A l :=
  h.same k.size (fun g cs fr hg => k.block g (Array.getElem?_eq_some_iff.1 hg).1 (by simp))
theorem IntAt.keepF {F : List Nat} {w w' : World} {A : Option Addr} {l : List Int} (h : IntAt w A l) (k : Keep F w w') (hF : ∀ y ∈ F, ∃ cs t fr, w.heap[y]? = some (.cells cs t fr) ∧ t ≠ 3) : IntAt w' A l :=
  h.same k.size (fun g cs fr hg => k.block g (Array.getElem?_eq_some_iff.1 hg).1 (fun hm => by
    obtain ⟨cs', t', fr', h1, h2⟩ := hF g hm
    rw [hg] at h1; cases h1; exact h2 rfl))
/-- Rows of ints in memory, by their slices. -/
structure IntsAt (w : World) (us : List Value) (ll : List (List Int)) : Prop where
  len : us.length = ll.length
  at_ : ∀ i, (h : i < ll.length) → ∃ A c, us[i]? = some (.slice A ll[i].length c) ∧ IntAt w A ll[i]
theorem IntsAt.nil (w : World) : IntsAt w [] [] := ⟨rfl, fun i h => absurd h (by simp)⟩
theorem IntsAt.snoc {w : World} {vs : List Value} {ll : List (List Int)} (h : IntsAt w vs ll) {A : Option Addr} {l : List Int} {c : Nat} (hl : IntAt w A l) : IntsAt w (vs ++ [.slice A l.length c]) (ll ++ [l]) := by
  refine ⟨by simp [h.len], fun i hi => ?_⟩
  rcases Nat.lt_or_ge i ll.length with h1 | h1
  · obtain ⟨A', c', h2, h3⟩ := h.at_ i h1
    refine ⟨A', c', ?_, ?_⟩
    · rw [List.getElem?_append_left (by rw [h.len]; exact h1), h2, List.getElem_append_left h1]
    · rw [List.getElem_append_left h1]; exact h3
  · obtain rfl : i = ll.length := by simp at hi; omega
    refine ⟨A, c, ?_, ?_⟩
    · rw [List.getElem?_append_right (by rw [h.len]; omega)]
      simp [h.len]
    · simpa using hl
theorem IntsAt.mono {w w' : World} {vs : List Value} {ll : List (List Int)} (h : IntsAt w vs ll) (hk : ∀ A l, IntAt w A l → IntAt w' A l) : IntsAt w' vs ll :=
  ⟨h.len, fun i hi => (h.at_ i hi).imp fun _ => fun ⟨c, a, b⟩ => ⟨c, a, hk _ _ b⟩⟩
/-- Rows of the call's own. -/
structure OwnR (w0 w : World) (V : Value) (ll : List (List Int)) : Prop where
  row : ∃ us, w.ownsRow w0.heap.size 40 1 V ll.length us ∧ IntsAt w us ll
  keep : Keep [] w0 w
theorem OwnR.nil (w : World) : OwnR w w (.slice none 0 0) [] := ⟨⟨[], World.ownsRow_nil _ _ _ _, IntsAt.nil w⟩, Keep.refl _ _⟩
theorem OwnR.keep0 {w0 w w' : World} {V : Value} {ll : List (List Int)} (h : OwnR w0 w V ll) (k : Keep [] w w') : OwnR w0 w' V ll := by
  obtain ⟨us, h1, h2⟩ := h.row
  exact ⟨⟨us, own_keep0 h1 k, h2.mono (fun _ _ h => h.keep0 k)⟩, h.keep.then k⟩
theorem OwnR.rows {w0 w : World} {A : Option Addr} {n c : Nat} {ll : List (List Int)} (h : OwnR w0 w (.slice A n c) ll) : n = ll.length ∧ RowsI w A ll := by
  obtain ⟨us, h1, h2⟩ := h.row
  have hn : n = ll.length := by
    obtain ⟨A', c', e⟩ := own_shape h1
    injection e
  subst hn
  exact ⟨rfl, ⟨us, Reads.of_own h1, fun i hi => (h2.at_ i hi).imp fun _ => fun ⟨c, a, b⟩ => ⟨c, a, b.rd⟩⟩⟩
/-- A row is appended. -/
theorem OwnR.app {w0 w w' : World} {V V' : Value} {ll : List (List Int)} {us : List Value} (hrow : w.ownsRow w0.heap.size 40 1 V ll.length us) (hI : IntsAt w us ll) (hk0 : Keep [] w0 w) {A : Option Addr} {l : List Int} {c : Nat} (hl : IntAt w A l)
    (k : Keep V.ownBlock.toList w w') (h' : w'.ownsRow w0.heap.size 40 1 V' (ll.length + 1) (us ++ [.slice A l.length c])) : OwnR w0 w' V' (ll ++ [l]) := by
  have hF : ∀ y ∈ V.ownBlock.toList, ∃ cs t fr, w.heap[y]? = some (.cells cs t fr) ∧ t ≠ 3 := fun y hy => by
    obtain ⟨cs, fr, h1⟩ := row_typed hrow y hy
    exact ⟨_, _, _, h1, by decide⟩
  refine ⟨⟨us ++ [.slice A l.length c], ?_, (hI.mono (fun _ _ h => h.keepF k hF)).snoc (hl.keepF k hF)⟩, hk0.trans k (fun x hx hlt => by have := (hrow.lt x (by simpa using hx)).1; omega)⟩
  rw [List.length_append]
  exact h'
/-- All responses of tasks that there are lie from 0 to 1073741824. -/
def RespOk (x : Img) (R : List RowM) : Prop := ∀ r ∈ R, 0 ≤ r.task → r.task < (x.tasks.length : Int) → 0 ≤ r.resp ∧ r.resp ≤ 1073741824
theorem RespOk.snoc {x : Img} {R : List RowM} {r : RowM} (h : RespOk x R) (hr : 0 ≤ r.task → r.task < (x.tasks.length : Int) → 0 ≤ r.resp ∧ r.resp ≤ 1073741824) : RespOk x (R ++ [r]) := fun r' h' => by
  rcases List.mem_append.1 h' with h' | h'
  · exact h r' h'
  · obtain rfl : r' = r := by simpa using h'
    exact hr

set_option maxRecDepth 100000 in
set_option maxHeartbeats 8000000 in
theorem sheetRows_out (v : ImgV) (x : Img) (vc : CrtV) (c : Crt) (w : World) (h : ImgAt w v x) (hc : CrtW w vc c) (hn : greatImg x = true ∨ ((chkImg x).2 == 0) = false ∨ greatC c = true) :
    Calls Tryd.prog 3 #[.agg (imgCells v x).toArray, .agg (crtCells vc c).toArray] w fun e w' => e = .returned (.bool true) ∧ Keep [] w w' := by
  obtain ⟨W0, hW0⟩ : ∃ W0, (w.alloc (.cells (imgCells v x).toArray 26)).alloc (.cells (crtCells vc c).toArray 30) = W0 := ⟨_, rfl⟩
  have b0 : Blk W0 w.heap.size 26 (imgCells v x).toArray := by rw [← hW0]; exact (img_box w v x).alloc _
  have b1 : Blk W0 (w.heap.size + 1) 30 (crtCells vc c).toArray := by rw [← hW0]; exact Blk.new1 _ _ _ _
  have K0 : Keep [] w W0 := by rw [← hW0]; exact ((Keep.refl [] w).alloc _).alloc _
  have HIC : Hid ((imgCells v x).length = 4) := show _ = _ from rfl
  have HCC : Hid ((crtCells vc c).length = 2) := show _ = _ from rfl
  have HCI := fun w' (k : Keep [] W0 w') => Lib.hid ((b0.keep0 k).cellsAt)
  have HCX := fun w' (k : Keep [] W0 w') => Lib.hid ((b1.keep0 k).cellsAt)
  have HG := Lib.hid (great_any v x W0 (h.keep0 K0))
  have HRi := fun w' (k : Keep [] W0 w') => Lib.hid (right_any v x w' (h.keep0 (K0.then k)))
  have HGc := fun w' (k : Keep [] W0 w') => Lib.hid (great53_any vc c w' (hc.keep0 (K0.then k)))
  have HK0 := Lib.hid K0
  have HW := Lib.hid hW0
  clear h hc K0 hW0 b0 b1
  generalize imgCells v x = il at *
  generalize crtCells vc c = cl at *
  generalize greatImg x = g at *
  generalize ((chkImg x).2 == 0) = rr at *
  generalize greatC c = gc at *
  have h0 := HCI W0 (Keep.refl _ _)
  cases g with
  | true =>
    clear HRi HGc hn
    go_enter Tryd.func3, Tryd.ntmps3
    go_wp2_with (first | rw [HW.out] | (refine wpList_load_agg rfl 26 (.tmp 2) rfl rfl (cs := il) (by rw [HIC.out]; exact agg_image) h0.out ?_))
    refine HG.out.mono ?_
    rintro e w1 ⟨rfl, k1⟩
    go_wp2
    go_ret
    exact ⟨rfl, HK0.out.then k1⟩
  | false =>
  cases rr with
  | false =>
    clear HGc hn
    go_enter Tryd.func3, Tryd.ntmps3
    go_wp2_with (first | rw [HW.out] | (refine wpList_load_agg rfl 26 (.tmp 2) rfl rfl (cs := il) (by rw [HIC.out]; exact agg_image) h0.out ?_))
    refine HG.out.mono ?_
    rintro e w1 ⟨rfl, k1⟩
    have h1 := HCI w1 k1
    have HR1 := HRi w1 k1
    have HK1 := Lib.hid (HK0.out.then k1)
    clear k1 HCI HRi
    go_wp2_with (refine wpList_agg_gd rfl 26 (.tmp 2) rfl rfl (cs := il) (by rw [HIC.out]; exact agg_image) h1.out ?_)
    refine HR1.out.mono ?_
    rintro e w2 ⟨rfl, k2⟩
    go_wp2
    go_ret
    exact ⟨rfl, HK1.out.then k2⟩
  | true =>
    have hgc : gc = true := by simpa using hn
    subst hgc
    clear hn
    go_enter Tryd.func3, Tryd.ntmps3
    go_wp2_with (first | rw [HW.out] | (refine wpList_load_agg rfl 26 (.tmp 2) rfl rfl (cs := il) (by rw [HIC.out]; exact agg_image) h0.out ?_))
    refine HG.out.mono ?_
    rintro e w1 ⟨rfl, k1⟩
    have h1 := HCI w1 k1
    have HR1 := HRi w1 k1
    have HK1 := Lib.hid k1
    clear k1 HCI HRi
    go_wp2_with (refine wpList_agg_gd rfl 26 (.tmp 2) rfl rfl (cs := il) (by rw [HIC.out]; exact agg_image) h1.out ?_)
    refine HR1.out.mono ?_
    rintro e w2 ⟨rfl, k2⟩
    have h2 := HCX w2 (HK1.out.then k2)
    have HG2 := HGc w2 (HK1.out.then k2)
    have HK2 := Lib.hid (HK0.out.then (HK1.out.then k2))
    clear k2 HGc HCX
    go_wp2_with (refine wpList_agg_gd rfl 30 (.tmp 3) rfl rfl (cs := cl) (by rw [HCC.out]; exact agg_cert) h2.out ?_)
    refine HG2.out.mono ?_
    rintro e w3 ⟨rfl, k3⟩
    go_wp2
    go_ret
    exact ⟨rfl, HK2.out.then k3⟩

theorem modeF_len (x : Img) (p : List RowM × Nat) : (modeF x p).length ≤ p.1.length := by
  unfold modeF
  generalize p.1 = R
  induction R with
  | nil => simp
  | cons r R ih =>
    rw [List.flatMap_cons, List.length_append, List.length_cons]
    have : (mrow x p.2 r).length ≤ 1 := by
      unfold mrow
      split
      · split <;> simp
      · simp
    omega
theorem modesL_len {x : Img} {c : Crt} (hm : c.modes.length ≤ 100) (hr : ∀ r ∈ c.modes, r.length ≤ 100) : (modesL x c).length ≤ 10000 := by
  unfold modesL
  have : ∀ (l : List (List RowM × Nat)), (∀ p ∈ l, p.1.length ≤ 100) → (l.flatMap (modeF x)).length ≤ 100 * l.length := by
    intro l
    induction l with
    | nil => simp
    | cons a l ih =>
      intro h
      rw [List.flatMap_cons, List.length_append, List.length_cons]
      have h1 := modeF_len x a
      have h2 := h a (by simp)
      have h3 := ih (fun p hp => h p (by simp [hp]))
      omega
  have := this c.modes.zipIdx (fun p hp => hr _ (by
    obtain ⟨a, i⟩ := p
    have := List.fst_mem_of_mem_zipIdx hp
    exact this))
  rw [List.length_zipIdx] at this
  omega
theorem ownR_lit {w0 w : World} {V : Value} {ll : List (List Int)} (h : OwnR w0 w V ll) : ∃ A n c, V = .slice A n c := by
  obtain ⟨us, h1, _⟩ := h.row
  obtain ⟨A, c, rfl⟩ := own_shape h1
  exact ⟨A, _, c, rfl⟩
def RowsRet (w1 : World) (xs : List (List Int)) (e : Ending) (w' : World) : Prop := ∃ A c' vs, e = .returned (.slice A xs.length c') ∧ Reads w' 1 A xs.length vs ∧ TextsAt w' vs (xs.map txts) ∧ Keep [] w1 w'
theorem rows_modes (v : ImgV) (x : Img) (vc : CrtV) (c : Crt) (w : World) (hx : ImgAt w v x) (hc : CrtAt w vc c) (hov : ResOk x c) (hl : (modesL x c).length ≤ 10000) :
    ∀ w1, (w.alloc (.cells (imgCells v x).toArray 26)).alloc (.cells (crtCells vc c).toArray 30) = w1 →
    Calls Tryd.prog 15 #[.func (.func 33) #[] #[.pointer (some ⟨w.heap.size + 1, 0, none⟩), .pointer (some ⟨w.heap.size, 0, none⟩)]] w1 (RowsRet w1 (modesL x c)) := by
  intro w1 hw1
  have b0 : Blk w1 w.heap.size 26 (imgCells v x).toArray := by rw [← hw1]; exact (img_box w v x).alloc _
  have b1 : Blk w1 (w.heap.size + 1) 30 (crtCells vc c).toArray := by rw [← hw1]; exact Blk.new1 _ _ _ _
  have K1 : Keep [] w w1 := by rw [← hw1]; exact ((Keep.refl [] w).alloc _).alloc _
  exact rows_any txts (modesL x c) 33 _ w1.heap.size w1 (Nat.le_refl _) (by omega) (enters_of Tryd.func33 (by kernel_rfl) rfl)
    (fun W k => smodes1_seq 8 v x vc c w1 W (hx.keep0 K1) (hc.keep0 K1) hov k.below (w.heap.size + 1) w.heap.size (Nat.lt_of_lt_of_le b1.lt k.size) (Nat.lt_of_lt_of_le b0.lt k.size) (b1.keep0 k) (b0.keep0 k))
theorem rows_edges (v : ImgV) (x : Img) (vc : CrtV) (c : Crt) (w : World) (hx : ImgAt w v x) (hc : CrtAt w vc c) :
    ∀ w1, (w.alloc (.cells (imgCells v x).toArray 26)).alloc (.cells (crtCells vc c).toArray 30) = w1 →
    Calls Tryd.prog 15 #[.func (.func 36) #[] #[.pointer (some ⟨w.heap.size + 1, 0, none⟩), .pointer (some ⟨w.heap.size, 0, none⟩)]] w1 (RowsRet w1 (edgesL x c)) := by
  intro w1 hw1
  have b0 : Blk w1 w.heap.size 26 (imgCells v x).toArray := by rw [← hw1]; exact (img_box w v x).alloc _
  have b1 : Blk w1 (w.heap.size + 1) 30 (crtCells vc c).toArray := by rw [← hw1]; exact Blk.new1 _ _ _ _
  have K1 : Keep [] w w1 := by rw [← hw1]; exact ((Keep.refl [] w).alloc _).alloc _
  exact rows_any txts (edgesL x c) 36 _ w1.heap.size w1 (Nat.le_refl _) (by rw [edgesL_len]; have := hc.le; omega) (enters_of Tryd.func36 (by kernel_rfl) rfl)
    (fun W k => sedges1_seq 8 v x vc c w1 W (hx.keep0 K1) (hc.keep0 K1) k.below (w.heap.size + 1) w.heap.size (Nat.lt_of_lt_of_le b1.lt k.size) (Nat.lt_of_lt_of_le b0.lt k.size) (b1.keep0 k) (b0.keep0 k))
theorem rows_loads (v : ImgV) (x : Img) (w : World) (hTb : Tab w) (hx : ImgAt w v x) (hm : x.modes.length ≤ 8) :
    ∀ w1, w.alloc (.cells (imgCells v x).toArray 26) = w1 →
    Calls Tryd.prog 15 #[.func (.func 37) #[] #[.pointer (some ⟨w.heap.size, 0, none⟩)]] w1 (RowsRet w1 (loadsL x)) := by
  intro w1 hw1
  have b0 : Blk w1 w.heap.size 26 (imgCells v x).toArray := by rw [← hw1]; exact img_box w v x
  have K1 : Keep [] w w1 := by rw [← hw1]; exact (Keep.refl [] w).alloc _
  exact rows_any txts (loadsL x) 37 _ w1.heap.size w1 (Nat.le_refl _) (by rw [loadsL_len]; omega) (enters_of Tryd.func37 (by kernel_rfl) rfl)
    (fun W k => sloads1_seq 8 v x w1 W (hTb.keep0 K1) (hx.keep0 K1) k.below w.heap.size (Nat.lt_of_lt_of_le b0.lt k.size) (b0.keep0 k))
theorem first_modes (v : ImgV) (x : Img) (vc : CrtV) (c : Crt) (r : List Int) (rs : List (List Int)) (w : World) (hx : ImgAt w v x) (hc : CrtAt w vc c) (hov : ResOk x c) (hr : modesL x c = r :: rs) :
    ∀ w1, (w.alloc (.cells (imgCells v x).toArray 26)).alloc (.cells (crtCells vc c).toArray 30) = w1 →
    Calls Tryd.prog 11 #[.func (.func 33) #[] #[.pointer (some ⟨w.heap.size + 1, 0, none⟩), .pointer (some ⟨w.heap.size, 0, none⟩)]] w1 fun e w' => ∃ A c, e = .returned (.slice A (txts r).length c) ∧ TxtAt w' A (txts r) ∧ Keep [] w1 w' := by
  intro w1 hw1
  have b0 : Blk w1 w.heap.size 26 (imgCells v x).toArray := by rw [← hw1]; exact (img_box w v x).alloc _
  have b1 : Blk w1 (w.heap.size + 1) 30 (crtCells vc c).toArray := by rw [← hw1]; exact Blk.new1 _ _ _ _
  have K1 : Keep [] w w1 := by rw [← hw1]; exact ((Keep.refl [] w).alloc _).alloc _
  exact first_any txts r rs 33 _ w1.heap.size w1 (Nat.le_refl _) (enters_of Tryd.func33 (by kernel_rfl) rfl)
    (fun W k => by rw [← hr]; exact smodes1_seq 8 v x vc c w1 W (hx.keep0 K1) (hc.keep0 K1) hov k.below (w.heap.size + 1) w.heap.size (Nat.lt_of_lt_of_le b1.lt k.size) (Nat.lt_of_lt_of_le b0.lt k.size) (b1.keep0 k) (b0.keep0 k))
theorem mrow_len {x : Img} {m : Nat} {r : RowM} : ∀ l ∈ mrow x m r, l.length = 6 := by
  intro l hl
  unfold mrow at hl
  split at hl
  · split at hl
    · simp at hl; rw [hl]; rfl
    · simp at hl
  · simp at hl
theorem modesL_row {x : Img} {c : Crt} : ∀ l ∈ modesL x c, l.length ≤ 100 := by
  intro l hl
  unfold modesL modeF at hl
  obtain ⟨p, _, hp⟩ := List.mem_flatMap.1 hl
  obtain ⟨r, _, hr⟩ := List.mem_flatMap.1 hp
  rw [mrow_len l hr]; decide
theorem edgesL_row {x : Img} {c : Crt} : ∀ l ∈ edgesL x c, l.length ≤ 100 := by
  intro l hl
  unfold edgesL at hl
  obtain ⟨p, _, rfl⟩ := List.mem_map.1 hl
  simp [edgeRow]
theorem loadsL_row {x : Img} : ∀ l ∈ loadsL x, l.length ≤ 100 := by
  intro l hl
  unfold loadsL at hl
  obtain ⟨p, _, rfl⟩ := List.mem_map.1 hl
  simp [loadRow]
set_option maxRecDepth 100000 in
set_option maxHeartbeats 40000000 in
theorem sheetRows_in (v : ImgV) (x : Img) (vc : CrtV) (c : Crt) (w : World) (hTb : Tab w) (h : ImgAt w v x) (hc : CrtW w vc c) (hg : greatImg x = false) (hr : ((chkImg x).2 == 0) = true) (hgc : greatC c = false) :
    Calls Tryd.prog 3 #[.agg (imgCells v x).toArray, .agg (crtCells vc c).toArray] w fun e w' => e = .returned (.bool true) ∧ Keep [] w w' := by
  have hca := hc.at_ hgc
  have hsm := small_of (x := x) (by simpa using hr)
  obtain ⟨W0, hW0⟩ : ∃ W0, (w.alloc (.cells (imgCells v x).toArray 26)).alloc (.cells (crtCells vc c).toArray 30) = W0 := ⟨_, rfl⟩
  have b0 : Blk W0 w.heap.size 26 (imgCells v x).toArray := by rw [← hW0]; exact (img_box w v x).alloc _
  have b1 : Blk W0 (w.heap.size + 1) 30 (crtCells vc c).toArray := by rw [← hW0]; exact Blk.new1 _ _ _ _
  have K0 : Keep [] w W0 := by rw [← hW0]; exact ((Keep.refl [] w).alloc _).alloc _
  have HIC : Hid ((imgCells v x).length = 4) := show _ = _ from rfl
  have HCC : Hid ((crtCells vc c).length = 2) := show _ = _ from rfl
  have HCI := fun w' (k : Keep [] W0 w') => Lib.hid ((b0.keep0 k).cellsAt)
  have HCX := fun w' (k : Keep [] W0 w') => Lib.hid ((b1.keep0 k).cellsAt)
  have HB : Hid (∀ w', Keep [] W0 w' → w'.cell? ⟨w.heap.size, 1, none⟩ = some (.slice v.ta x.tasks.length v.tc) ∧ w'.cell? ⟨w.heap.size, 2, none⟩ = some (.slice v.ma x.modes.length v.mc) ∧ w'.cell? ⟨w.heap.size, 3, none⟩ = some (.slice v.ea x.edges.length v.ec) ∧ w'.cell? ⟨w.heap.size + 1, 0, none⟩ = some (.slice vc.ma c.modes.length vc.mc) ∧ w'.cell? ⟨w.heap.size + 1, 1, none⟩ = some (.slice vc.ea c.edges.length vc.ec)) := fun w' k =>
    ⟨img_c1 (b0.keep0 k), img_c2 (b0.keep0 k), img_c3 (b0.keep0 k), by rw [(b1.keep0 k).cell]; rfl, by rw [(b1.keep0 k).cell]; rfl⟩
  have HG := Lib.hid (great_any v x W0 (h.keep0 K0))
  have HRi := fun w' (k : Keep [] W0 w') => Lib.hid (right_any v x w' (h.keep0 (K0.then k)))
  have HGc := fun w' (k : Keep [] W0 w') => Lib.hid (great53_any vc c w' (hc.keep0 (K0.then k)))
  have HI := Lib.hid (h.keep0 K0)
  have HCa := Lib.hid (hca.keep0 K0)
  have HTb := Lib.hid (hTb.keep0 K0)
  have HML := Lib.hid (modesL_len (x := x) hca.lm hca.lr)
  have HLd := fun (s : Nat) (hs : s < 4294967296) wz (kk : Keep [] W0 wz) => Lib.hid (loadOf_any v x s wz (hTb.keep0 (K0.then kk)) (h.keep0 (K0.then kk)) hs)
  have HMo := fun wz => Lib.hid (smodes_any v x vc c wz)
  have HEd := fun wz => Lib.hid (sedges_any v x vc c wz)
  have HLo := fun wz => Lib.hid (sloads_any v x wz)
  have HRM := fun hov wz (kk : Keep [] W0 wz) => Lib.hid (rows_modes v x vc c wz (h.keep0 (K0.then kk)) (hca.keep0 (K0.then kk)) hov (modesL_len hca.lm hca.lr))
  have HRE := fun wz (kk : Keep [] W0 wz) => Lib.hid (rows_edges v x vc c wz (h.keep0 (K0.then kk)) (hca.keep0 (K0.then kk)))
  have HRL := fun hm8 wz (kk : Keep [] W0 wz) => Lib.hid (rows_loads v x wz (hTb.keep0 (K0.then kk)) (h.keep0 (K0.then kk)) hm8)
  have HFM := fun r rs hov hml wz (kk : Keep [] W0 wz) => Lib.hid (first_modes v x vc c r rs wz (h.keep0 (K0.then kk)) (hca.keep0 (K0.then kk)) hov hml)
  have HAl := fun wz => Lib.hid (alive53 wz)
  have HSM := Lib.hid hsm
  have HCHK : Hid ((chkImg x).2 = 0) := by show _ = _; simpa using hr
  have HK0 := Lib.hid K0
  have HW := Lib.hid hW0
  rw [hg] at HG
  rw [hr] at HRi
  rw [hgc] at HGc
  clear h hc K0 hW0 b0 b1 hg hr hgc hca hsm hTb
  generalize imgCells v x = il at *
  generalize crtCells vc c = cl at *
  have h0 := HCI W0 (Keep.refl _ _)
  go_enter Tryd.func3, Tryd.ntmps3
  go_wp2_with (first | rw [HW.out] | (refine wpList_load_agg rfl 26 (.tmp 2) rfl rfl (cs := il) (by rw [HIC.out]; exact agg_image) h0.out ?_))
  refine HG.out.mono ?_
  rintro e w1 ⟨rfl, k1⟩
  have h1 := HCI w1 k1
  have HR1 := HRi w1 k1
  have HK1 := Lib.hid k1
  clear k1 HRi h0 HG
  go_wp2_with (refine wpList_agg_gd rfl 26 (.tmp 2) rfl rfl (cs := il) (by rw [HIC.out]; exact agg_image) h1.out ?_)
  refine HR1.out.mono ?_
  rintro e w2 ⟨rfl, k2⟩
  have h2 := HCX w2 (HK1.out.then k2)
  have HG2 := HGc w2 (HK1.out.then k2)
  have HK2 := Lib.hid (HK1.out.then k2)
  clear k2 HGc HR1 h1
  go_wp2_with (refine wpList_agg_gd rfl 30 (.tmp 3) rfl rfl (cs := cl) (by rw [HCC.out]; exact agg_cert) h2.out ?_)
  refine HG2.out.mono ?_
  rintro e w3 ⟨rfl, k3⟩
  have HK3 := Lib.hid (HK2.out.then k3)
  clear k3 HG2 h2
  go_wp2
  go_loopw [5, 8] (fun vA vm wr => ∃ m : Nat, m ≤ c.modes.length ∧ vm = .int .i64 (m : Int) ∧ OwnR w3 wr vA ((c.modes.zipIdx.take m).flatMap (modeF x)) ∧ Hid (∀ R ∈ c.modes.take m, RespOk x R)) (fun _ vm _ => c.modes.length - (intOf vm).toNat)
  case atStart => exact ⟨0, Nat.zero_le _, rfl, OwnR.nil w3, Lib.hid (by simp)⟩
  case round =>
    obtain ⟨m, hm, rfl, hO, HRO⟩ := hrel
    have hlm := HCa.out.lm
    obtain ⟨f1, f2, f3, f4, f5⟩ := HB.out wr (HK3.out.then hO.keep)
    by_cases hlt : m < c.modes.length
    · have hzl : m < c.modes.zipIdx.length := by simpa using hlt
      have hzk : c.modes.zipIdx[m] = (c.modes[m], m) := by simp
      have hsuc := Lib.hid (take_flat (modeF x) c.modes.zipIdx m hzl)
      rw [hzk] at hsuc
      simp only [modeF] at hsuc
      have hml : ((c.modes.zipIdx.take m).flatMap (modeF x)).length + (c.modes[m].flatMap (mrow x m)).length ≤ 10000 := by
        have h1 := HML.out
        unfold modesL at h1
        rw [drop_flat (modeF x) c.modes.zipIdx m hzl, hzk] at h1
        simp only [List.length_append, modeF] at h1
        omega
      obtain ⟨bm, om, hma, hbm, hmo⟩ := HCa.out.mode (by omega)
      obtain ⟨A, cp, hmc, hrd⟩ := hmo m hlt
      clear hmo
      have HMC : Hid (∀ w', Keep [] W0 w' → w'.cell? ⟨bm, om + m, none⟩ = some (.slice A c.modes[m].length cp)) := fun w' k => (k.cell (p := ⟨bm, om + m, none⟩) hbm (by simp)).trans hmc
      have hmc' := HMC.out wr (HK3.out.then hO.keep)
      have hrd := Lib.hid hrd
      have hlr := HCa.out.lr _ (List.getElem_mem hlt)
      have HRS := Lib.hid (List.take_succ_eq_append_getElem hlt)
      have hmods : ∀ R ∈ c.modes.take (m + 1), RespOk x R → True := fun _ _ _ => trivial
      clear hmc hzk hmods
      generalize hR : c.modes[m] = R at *
      obtain ⟨pk, hpk⟩ : ∃ pk, (c.modes.zipIdx.take m).flatMap (modeF x) = pk := ⟨_, rfl⟩
      rw [hpk] at hO hsuc hml
      rw [hma] at f4
      have p0 : (0 : Int) ≤ (m : Int) := by omega
      have p1 : (m : Int) < (c.modes.length : Int) := by omega
      clear hpk hR
      go_wp2
      generalize wr = wo at *
      go_loopw [5, 9] (fun vA vj wr => ∃ j : Nat, j ≤ R.length ∧ vj = .int .i64 (j : Int) ∧ OwnR w3 wr vA (pk ++ (R.take j).flatMap (mrow x m)) ∧ Hid (RespOk x (R.take j))) (fun _ vj _ => R.length - (intOf vj).toNat)
      case atStart => exact ⟨0, Nat.zero_le _, rfl, by simpa using hO, Lib.hid (by intro r hr; simp at hr)⟩
      case round =>
        clear hO f1 f2 f3 f4 f5 hmc'
        obtain ⟨j, hjl, rfl, hO, HRj⟩ := hrel
        obtain ⟨f1, f2, f3, f4, f5⟩ := HB.out wr (HK3.out.then hO.keep)
        have hmc' := HMC.out wr (HK3.out.then hO.keep)
        by_cases hlj : j < R.length
        · have HK := HK3.out.then hO.keep
          obtain ⟨br, orr, hA, hbw, hrc⟩ := (hrd.out.keep0 HK).elems rfl (fun _ _ => rfl) (by omega)
          have hq : Hid (CellsAt wr br (orr + j * 3) [.int .i64 R[j].task, .int .i64 R[j].block, .int .i64 R[j].resp]) := hrc j hlj
          have hsj : pk ++ (R.take (j + 1)).flatMap (mrow x m) = (pk ++ (R.take j).flatMap (mrow x m)) ++ mrow x m R[j] := by
            rw [take_flat (mrow x m) R j hlj, ← List.append_assoc]
          have hlen : (pk ++ (R.take j).flatMap (mrow x m)).length ≤ 10000 := by
            have h1 := hml
            rw [drop_flat (mrow x m) R j hlj] at h1
            simp only [List.length_append] at h1 ⊢
            omega
          have hmy := fun (i : Nat) (h : R[j].task = (i : Int)) (hi : i < x.tasks.length) => mrow_yes (m := m) h hi
          have hmn := fun (h : R[j].task < 0 ∨ (x.tasks.length : Int) ≤ R[j].task) => mrow_no (m := m) h
          have hrs := fun (h : 0 ≤ R[j].task → R[j].task < (x.tasks.length : Int) → 0 ≤ R[j].resp ∧ R[j].resp ≤ 1073741824) => RespOk.snoc HRj.out (r := R[j]) h
          rw [← List.take_succ_eq_append_getElem hlj] at hrs
          generalize pk ++ (R.take j).flatMap (mrow x m) = q at *
          generalize mrow x m R[j] = MR at *
          generalize R[j].task = ra at *
          generalize R[j].block = rb at *
          generalize R[j].resp = rc at *
          have HSJ := Lib.hid hsj
          have HRS2 := Lib.hid hrs
          have hjl0 : (j : Int) < (R.length : Int) := by omega
          have hj0 : (0 : Int) ≤ (j : Int) := by omega
          clear hrc hsj hrs
          obtain ⟨V, hV⟩ : ∃ V, wr.alloc (.cells #[.int .i64 ra, .int .i64 rb, .int .i64 rc] 36) = V := ⟨_, rfl⟩
          have KV : Keep [] wr V := by rw [← hV]; exact (Keep.refl _ wr).alloc _
          have dV : Blk V wr.heap.size 36 #[.int .i64 ra, .int .i64 rb, .int .i64 rc] := by rw [← hV]; exact Blk.new _ _ _
          have OV := hO.keep0 KV
          obtain ⟨g1, g2, g3, g4, g5⟩ := HB.out V (HK.then KV)
          have HV := Lib.hid hV
          clear hV
          have q0 := dV.cell 0
          have q1 := dV.cell 1
          have q2 := dV.cell 2
          simp at q0 q1 q2
          rw [hA] at hmc'
          rw [hma] at f4 g4
          have hcc : ra < 0 ∨ (0 ≤ ra ∧ (x.tasks.length : Int) ≤ ra) ∨ (0 ≤ ra ∧ ra < (x.tasks.length : Int)) := by omega
          rcases hcc with hra | ⟨hra, hra2⟩ | ⟨hra, hra2⟩
          · have hm0 := hmn (.inl hra)
            have HR2 := Lib.hid (HRS2.out (fun h => by omega))
            clear hmy hmn
            go_wp2_with (first | rw [HV.out] | (refine wpList_load_agg rfl 36 (.tmp 48) rfl rfl (cs := [.int .i64 ra, .int .i64 rb, .int .i64 rc]) agg_row hq.out ?_))
            go_roundw
            case rel => exact ⟨j + 1, by omega, by go_num, by rw [HSJ.out, hm0, List.append_nil]; exact OV, HR2⟩
            case measure => simp [intOf]; omega
          · have hm0 := hmn (.inr hra2)
            have HR2 := Lib.hid (HRS2.out (fun _ h => by omega))
            clear hmy hmn
            go_wp2_with (first | rw [HV.out] | (refine wpList_load_agg rfl 36 (.tmp 48) rfl rfl (cs := [.int .i64 ra, .int .i64 rb, .int .i64 rc]) agg_row hq.out ?_))
            go_roundw
            case rel => exact ⟨j + 1, by omega, by go_num, by rw [HSJ.out, hm0, List.append_nil]; exact OV, HR2⟩
            case measure => simp [intOf]; omega
          · obtain ⟨i, rfl⟩ := Int.eq_ofNat_of_zero_le hra
            have hi : i < x.tasks.length := by omega
            have hm1 := hmy i rfl hi
            have hdd := HSM.out.ded _ (List.getElem_mem hi)
            obtain ⟨bt, ot, hta, hbt, htc⟩ := HI.out.task (by omega)
            have hct := (htc i hi).keep0 (HK.then KV) hbt 1 (.int .i64 x.tasks[i].ded) rfl
            rw [hta] at f1 g1
            generalize x.tasks[i].ded = td at *
            clear hmy hmn htc
            have hcr : rc < 0 ∨ (0 ≤ rc ∧ 1073741824 < rc) ∨ (0 ≤ rc ∧ rc ≤ 1073741824) := by omega
            have KE := HK0.out.then (HK.then KV)
            rcases hcr with hr1 | ⟨hr1, hr2⟩ | ⟨hr1, hr2⟩
            · have HKE := Lib.hid KE
              go_wp2_with (first | rw [HV.out] | (refine wpList_load_agg rfl 36 (.tmp 48) rfl rfl (cs := [.int .i64 (i : Int), .int .i64 rb, .int .i64 rc]) agg_row hq.out ?_))
              go_ret
              exact ⟨rfl, HKE.out⟩
            · have HKE := Lib.hid KE
              go_wp2_with (first | rw [HV.out] | (refine wpList_load_agg rfl 36 (.tmp 48) rfl rfl (cs := [.int .i64 (i : Int), .int .i64 rb, .int .i64 rc]) agg_row hq.out ?_))
              go_ret
              exact ⟨rfl, HKE.out⟩
            · have HR2 := Lib.hid (HRS2.out (fun _ _ => ⟨hr1, hr2⟩))
              obtain ⟨V2, hV2⟩ : ∃ V2, V.alloc (.cells #[.int .i64 (m : Int), .int .i64 (i : Int), .int .i64 rb, .int .i64 rc, .int .i64 td, .int .i64 (td - rc)] 3) = V2 := ⟨_, rfl⟩
              have KV2 : Keep [] V V2 := by rw [← hV2]; exact (Keep.refl _ V).alloc _
              have dV2 : Blk V2 V.heap.size 3 (iv [(m : Int), (i : Int), rb, rc, td, td - rc]).toArray := by rw [← hV2]; exact Blk.new _ _ _
              have O2 := OV.keep0 KV2
              have hksz := O2.keep.size
              obtain ⟨us, hrow, hIs⟩ := O2.row
              have HV2 := Lib.hid hV2
              clear hV2
              go_wp2_with (first
                | rw [HV.out]
                | rw [HV2.out]
                | (refine wpList_load_agg rfl 36 (.tmp 48) rfl rfl (cs := [.int .i64 (i : Int), .int .i64 rb, .int .i64 rc]) agg_row hq.out ?_)
                | (at_builtin; refine wpList_append_one rfl (.tmp 78) (.tmp 92) 33 rfl slice_intsR hrow rfl rfl (us := [.slice (some ⟨V.heap.size, 0, none⟩) 6 6]) rfl (by simp [Value.oneCell']) hksz (by omega) (by unfold maxLen; omega) ?_; intro v' w5 hown5 hgrow5 hat5))
              have O5 : OwnR w3 w5 v' (q ++ [[(m : Int), (i : Int), rb, rc, td, td - rc]]) := OwnR.app (c := 6) hrow hIs O2.keep (IntAt.of_blk dV2) hgrow5 hown5
              go_roundw
              case rel => exact ⟨j + 1, by omega, by go_num, by rw [HSJ.out, hm1]; exact O5, HR2⟩
              case measure => simp [intOf]; omega
        · obtain rfl : j = R.length := by omega
          rw [List.take_length] at hO HRj
          have HRO2 : Hid (∀ R' ∈ c.modes.take (m + 1), RespOk x R') := fun R' h' => by
            rw [HRS.out] at h'
            rcases List.mem_append.1 h' with h' | h'
            · exact HRO.out R' h'
            · obtain rfl : R' = R := by simpa using h'
              exact HRj.out
          have HO := Lib.hid hO
          clear hO
          rw [hma] at f4
          go_wp2
          go_roundw
          case rel => exact ⟨m + 1, by omega, by go_num, by rw [hsuc.out]; exact HO.out, HRO2⟩
          case measure => simp [intOf]; omega
    · obtain rfl : m = c.modes.length := by omega
      have hov : ResOk x c := fun rs hrs r hr i hi hti => by
        have h1 := HRO.out rs (by rwa [List.take_length]) r hr (by omega) (by omega)
        have h2 := HSM.out.ded _ (List.getElem_mem hi)
        have h3 := HSM.out.per _ (List.getElem_mem hi)
        omega
      have HOV := Lib.hid hov
      rw [show (c.modes.zipIdx.take c.modes.length).flatMap (modeF x) = modesL x c by unfold modesL; rw [List.take_of_length_le (by simp)]] at hO
      have HOA := Lib.hid hO
      obtain ⟨AA, nA, cA, rfl⟩ := ownR_lit hO
      have HWA := Lib.hid (HK3.out.then hO.keep)
      clear hO hov HRO hlm
      go_wp2
      generalize wr = wA at *
      go_loopw [6, 12] (fun vB vk wr => ∃ k : Nat, k ≤ c.edges.length ∧ k ≤ x.edges.length ∧ vk = .int .i64 (k : Int) ∧ OwnR wA wr vB ((edgesL x c).take k)) (fun _ vk _ => c.edges.length - (intOf vk).toNat)
      case atStart => exact ⟨0, Nat.zero_le _, Nat.zero_le _, rfl, OwnR.nil wA⟩
      case round =>
        clear f1 f2 f3 f4 f5
        obtain ⟨k, hk, hkx, rfl, hO⟩ := hrel
        obtain ⟨f1, f2, f3, f4, f5⟩ := HB.out wr (HWA.out.then hO.keep)
        have hle := HCa.out.le
        by_cases hin : k < c.edges.length ∧ k < x.edges.length
        · obtain ⟨hlt, hlx⟩ := hin
          have p0 : (0 : Int) ≤ (k : Int) := by omega
          have p1 : (k : Int) < (c.edges.length : Int) := by omega
          · have p2 : (k : Int) < (x.edges.length : Int) := by omega
            have hsj := Lib.hid (edgesL_take x c hlt hlx)
            obtain ⟨be, oe, hea, hbe, hec⟩ := HI.out.edge (by omega)
            obtain ⟨br, orr, hA, hbw, hrc⟩ := HCa.out.edges.elems rfl (fun _ _ => rfl) (by omega)
            have hEC := Lib.hid (fun wz (kk : Keep [] W0 wz) => (hec k hlx).keep0 kk hbe)
            have hRC : Hid (∀ wz, Keep [] W0 wz → CellsAt wz br (orr + k * 2) [.int .i64 c.edges[k].1, .int .i64 c.edges[k].2]) := fun wz kk => CellsAt.keep0 (hrc k hlt) kk hbw
            clear hec hrc
            generalize hE0 : x.edges[k].frm = e0 at *
            generalize hE1 : x.edges[k].to = e1 at *
            generalize hE2 : x.edges[k].prot = e2 at *
            have hEC2 : Hid (∀ wz, Keep [] W0 wz → wz.cell? ⟨be, oe + k * 23, none⟩ = some (.int .i64 e0) ∧ wz.cell? ⟨be, oe + k * 23 + 1, none⟩ = some (.int .i64 e1) ∧ wz.cell? ⟨be, oe + k * 23 + 2, none⟩ = some (.int .i64 e2)) := fun wz kk => by
              have := hEC.out wz kk
              rw [← hE0, ← hE1, ← hE2]
              exact ⟨this 0 _ rfl, this 1 _ rfl, this 2 _ rfl⟩
            simp only [edgeRow, hE0, hE1, hE2] at hsj
            clear hE0 hE1 hE2 hEC
            generalize c.edges[k].1 = ra at *
            generalize c.edges[k].2 = rb at *
            have hF : ∀ w', Keep [] wr w' → w'.cell? ⟨w.heap.size, 3, none⟩ = some (.slice (some ⟨be, oe, none⟩) x.edges.length v.ec) ∧ w'.cell? ⟨w.heap.size + 1, 1, none⟩ = some (.slice (some ⟨br, orr, none⟩) c.edges.length vc.ec) ∧ w'.cell? ⟨be, oe + k * 23, none⟩ = some (.int .i64 e0) ∧ w'.cell? ⟨be, oe + k * 23 + 1, none⟩ = some (.int .i64 e1) ∧ w'.cell? ⟨be, oe + k * 23 + 2, none⟩ = some (.int .i64 e2) ∧ w'.cell? ⟨br, orr + k * 2, none⟩ = some (.int .i64 ra) ∧ w'.cell? ⟨br, orr + k * 2 + 1, none⟩ = some (.int .i64 rb) := fun w' kk => by
              have K := HWA.out.then (hO.keep.then kk)
              obtain ⟨_, _, g3, _, g5⟩ := HB.out w' K
              obtain ⟨t0, t1, t2⟩ := hEC2.out w' K
              have t3 := hRC.out w' K
              rw [hea] at g3
              rw [hA] at g5
              exact ⟨g3, g5, t0, t1, t2, t3 0 _ rfl, t3 1 _ rfl⟩
            have HO := Lib.hid hO
            rw [hea] at f3
            rw [hA] at f5
            clear hO
            go_wp2
            refine ap_begin 33 (Keep [] wr) rfl (Keep.refl _ _).drew (fun hS hPan => ?_) (fun _ _ d _ _ h => by cases d <;> exact h)
            (refine ap_val (v := ?_) 0 rfl (by kernel_rfl) (by kernel_rfl) (by kernel_rfl) (by kernel_rfl) (by rfl) hPan ?_ hS ?_; rotate_left; (intro w' hSw; go_simp; try with_reducible rfl); simp only [Act.put, List.setIfInBounds_toArray, List.set_cons_zero, List.set_cons_succ])
            (refine ap_val (v := ?_) 1 rfl (by kernel_rfl) (by kernel_rfl) (by kernel_rfl) (by kernel_rfl) (by rfl) hPan ?_ hS ?_; rotate_left; (intro w' hSw; go_simp; try with_reducible rfl); simp only [Act.put, List.setIfInBounds_toArray, List.set_cons_zero, List.set_cons_succ])
            (refine ap_val (v := ?_) 2 rfl (by kernel_rfl) (by kernel_rfl) (by kernel_rfl) (by kernel_rfl) (by rfl) hPan ?_ hS ?_; rotate_left; (intro w' hSw; obtain ⟨f1,f2,f3,f4,f5,f6,f7⟩ := hF w' hSw; go_simp; try with_reducible rfl); simp only [Act.put, List.setIfInBounds_toArray, List.set_cons_zero, List.set_cons_succ])
            (refine ap_val (v := ?_) 3 rfl (by kernel_rfl) (by kernel_rfl) (by kernel_rfl) (by kernel_rfl) (by rfl) hPan ?_ hS ?_; rotate_left; (intro w' hSw; go_simp; try with_reducible rfl); simp only [Act.put, List.setIfInBounds_toArray, List.set_cons_zero, List.set_cons_succ])
            (refine ap_val (v := ?_) 4 rfl (by kernel_rfl) (by kernel_rfl) (by kernel_rfl) (by kernel_rfl) (by rfl) hPan ?_ hS ?_; rotate_left; (intro w' hSw; go_simp; try with_reducible rfl); simp only [Act.put, List.setIfInBounds_toArray, List.set_cons_zero, List.set_cons_succ])
            (refine ap_val (v := ?_) 5 rfl (by kernel_rfl) (by kernel_rfl) (by kernel_rfl) (by kernel_rfl) (by rfl) hPan ?_ hS ?_; rotate_left; (intro w' hSw; go_simp; try with_reducible rfl); simp only [Act.put, List.setIfInBounds_toArray, List.set_cons_zero, List.set_cons_succ])
            (refine ap_val (v := ?_) 6 rfl (by kernel_rfl) (by kernel_rfl) (by kernel_rfl) (by kernel_rfl) (by rfl) hPan ?_ hS ?_; rotate_left; (intro w' hSw; obtain ⟨f1,f2,f3,f4,f5,f6,f7⟩ := hF w' hSw; go_simp; try with_reducible rfl); simp only [Act.put, List.setIfInBounds_toArray, List.set_cons_zero, List.set_cons_succ])
            (refine ap_val (v := ?_) 7 rfl (by kernel_rfl) (by kernel_rfl) (by kernel_rfl) (by kernel_rfl) (by rfl) hPan ?_ hS ?_; rotate_left; (intro w' hSw; go_simp; try with_reducible rfl); simp only [Act.put, List.setIfInBounds_toArray, List.set_cons_zero, List.set_cons_succ])
            (refine ap_val (v := ?_) 8 rfl (by kernel_rfl) (by kernel_rfl) (by kernel_rfl) (by kernel_rfl) (by rfl) hPan ?_ hS ?_; rotate_left; (intro w' hSw; obtain ⟨f1,f2,f3,f4,f5,f6,f7⟩ := hF w' hSw; go_simp; try with_reducible rfl); simp only [Act.put, List.setIfInBounds_toArray, List.set_cons_zero, List.set_cons_succ])
            (refine ap_val (v := ?_) 9 rfl (by kernel_rfl) (by kernel_rfl) (by kernel_rfl) (by kernel_rfl) (by rfl) hPan ?_ hS ?_; rotate_left; (intro w' hSw; go_simp; try with_reducible rfl); simp only [Act.put, List.setIfInBounds_toArray, List.set_cons_zero, List.set_cons_succ])
            (refine ap_val (v := ?_) 10 rfl (by kernel_rfl) (by kernel_rfl) (by kernel_rfl) (by kernel_rfl) (by rfl) hPan ?_ hS ?_; rotate_left; (intro w' hSw; go_simp; try with_reducible rfl); simp only [Act.put, List.setIfInBounds_toArray, List.set_cons_zero, List.set_cons_succ])
            (refine ap_val (v := ?_) 11 rfl (by kernel_rfl) (by kernel_rfl) (by kernel_rfl) (by kernel_rfl) (by rfl) hPan ?_ hS ?_; rotate_left; (intro w' hSw; go_simp; try with_reducible rfl); simp only [Act.put, List.setIfInBounds_toArray, List.set_cons_zero, List.set_cons_succ])
            (refine ap_val (v := ?_) 12 rfl (by kernel_rfl) (by kernel_rfl) (by kernel_rfl) (by kernel_rfl) (by rfl) hPan ?_ hS ?_; rotate_left; (intro w' hSw; obtain ⟨f1,f2,f3,f4,f5,f6,f7⟩ := hF w' hSw; go_simp; try with_reducible rfl); simp only [Act.put, List.setIfInBounds_toArray, List.set_cons_zero, List.set_cons_succ])
            (refine ap_val (v := ?_) 13 rfl (by kernel_rfl) (by kernel_rfl) (by kernel_rfl) (by kernel_rfl) (by rfl) hPan ?_ hS ?_; rotate_left; (intro w' hSw; go_simp; try with_reducible rfl); simp only [Act.put, List.setIfInBounds_toArray, List.set_cons_zero, List.set_cons_succ])
            (refine ap_val (v := ?_) 14 rfl (by kernel_rfl) (by kernel_rfl) (by kernel_rfl) (by kernel_rfl) (by rfl) hPan ?_ hS ?_; rotate_left; (intro w' hSw; obtain ⟨f1,f2,f3,f4,f5,f6,f7⟩ := hF w' hSw; go_simp; try with_reducible rfl); simp only [Act.put, List.setIfInBounds_toArray, List.set_cons_zero, List.set_cons_succ])
            (refine ap_val (v := ?_) 15 rfl (by kernel_rfl) (by kernel_rfl) (by kernel_rfl) (by kernel_rfl) (by rfl) hPan ?_ hS ?_; rotate_left; (intro w' hSw; go_simp; try with_reducible rfl); simp only [Act.put, List.setIfInBounds_toArray, List.set_cons_zero, List.set_cons_succ])
            (refine ap_val (v := ?_) 16 rfl (by kernel_rfl) (by kernel_rfl) (by kernel_rfl) (by kernel_rfl) (by rfl) hPan ?_ hS ?_; rotate_left; (intro w' hSw; go_simp; try with_reducible rfl); simp only [Act.put, List.setIfInBounds_toArray, List.set_cons_zero, List.set_cons_succ])
            (refine ap_val (v := ?_) 17 rfl (by kernel_rfl) (by kernel_rfl) (by kernel_rfl) (by kernel_rfl) (by rfl) hPan ?_ hS ?_; rotate_left; (intro w' hSw; go_simp; try with_reducible rfl); simp only [Act.put, List.setIfInBounds_toArray, List.set_cons_zero, List.set_cons_succ])
            (refine ap_val (v := ?_) 18 rfl (by kernel_rfl) (by kernel_rfl) (by kernel_rfl) (by kernel_rfl) (by rfl) hPan ?_ hS ?_; rotate_left; (intro w' hSw; obtain ⟨f1,f2,f3,f4,f5,f6,f7⟩ := hF w' hSw; go_simp; try with_reducible rfl); simp only [Act.put, List.setIfInBounds_toArray, List.set_cons_zero, List.set_cons_succ])
            (refine ap_val (v := ?_) 19 rfl (by kernel_rfl) (by kernel_rfl) (by kernel_rfl) (by kernel_rfl) (by rfl) hPan ?_ hS ?_; rotate_left; (intro w' hSw; go_simp; try with_reducible rfl); simp only [Act.put, List.setIfInBounds_toArray, List.set_cons_zero, List.set_cons_succ])
            (refine ap_val (v := ?_) 20 rfl (by kernel_rfl) (by kernel_rfl) (by kernel_rfl) (by kernel_rfl) (by rfl) hPan ?_ hS ?_; rotate_left; (intro w' hSw; obtain ⟨f1,f2,f3,f4,f5,f6,f7⟩ := hF w' hSw; go_simp; try with_reducible rfl); simp only [Act.put, List.setIfInBounds_toArray, List.set_cons_zero, List.set_cons_succ])
            (refine ap_val (v := ?_) 21 rfl (by kernel_rfl) (by kernel_rfl) (by kernel_rfl) (by kernel_rfl) (by rfl) hPan ?_ hS ?_; rotate_left; (intro w' hSw; go_simp; try with_reducible rfl); simp only [Act.put, List.setIfInBounds_toArray, List.set_cons_zero, List.set_cons_succ])
            (refine ap_val (v := ?_) 22 rfl (by kernel_rfl) (by kernel_rfl) (by kernel_rfl) (by kernel_rfl) (by rfl) hPan ?_ hS ?_; rotate_left; (intro w' hSw; go_simp; try with_reducible rfl); simp only [Act.put, List.setIfInBounds_toArray, List.set_cons_zero, List.set_cons_succ])
            (refine ap_val (v := ?_) 23 rfl (by kernel_rfl) (by kernel_rfl) (by kernel_rfl) (by kernel_rfl) (by rfl) hPan ?_ hS ?_; rotate_left; (intro w' hSw; go_simp; try with_reducible rfl); simp only [Act.put, List.setIfInBounds_toArray, List.set_cons_zero, List.set_cons_succ])
            (refine ap_val (v := ?_) 24 rfl (by kernel_rfl) (by kernel_rfl) (by kernel_rfl) (by kernel_rfl) (by rfl) hPan ?_ hS ?_; rotate_left; (intro w' hSw; obtain ⟨f1,f2,f3,f4,f5,f6,f7⟩ := hF w' hSw; go_simp; try with_reducible rfl); simp only [Act.put, List.setIfInBounds_toArray, List.set_cons_zero, List.set_cons_succ])
            (refine ap_val (v := ?_) 25 rfl (by kernel_rfl) (by kernel_rfl) (by kernel_rfl) (by kernel_rfl) (by rfl) hPan ?_ hS ?_; rotate_left; (intro w' hSw; go_simp; try with_reducible rfl); simp only [Act.put, List.setIfInBounds_toArray, List.set_cons_zero, List.set_cons_succ])
            (refine ap_val (v := ?_) 26 rfl (by kernel_rfl) (by kernel_rfl) (by kernel_rfl) (by kernel_rfl) (by rfl) hPan ?_ hS ?_; rotate_left; (intro w' hSw; obtain ⟨f1,f2,f3,f4,f5,f6,f7⟩ := hF w' hSw; go_simp; try with_reducible rfl); simp only [Act.put, List.setIfInBounds_toArray, List.set_cons_zero, List.set_cons_succ])
            (refine ap_val (v := ?_) 27 rfl (by kernel_rfl) (by kernel_rfl) (by kernel_rfl) (by kernel_rfl) (by rfl) hPan ?_ hS ?_; rotate_left; (intro w' hSw; go_simp; try with_reducible rfl); simp only [Act.put, List.setIfInBounds_toArray, List.set_cons_zero, List.set_cons_succ])
            (refine ap_val (v := ?_) 28 rfl (by kernel_rfl) (by kernel_rfl) (by kernel_rfl) (by kernel_rfl) (by rfl) hPan ?_ hS ?_; rotate_left; (intro w' hSw; go_simp; try with_reducible rfl); simp only [Act.put, List.setIfInBounds_toArray, List.set_cons_zero, List.set_cons_succ])
            (refine ap_val (v := ?_) 29 rfl (by kernel_rfl) (by kernel_rfl) (by kernel_rfl) (by kernel_rfl) (by rfl) hPan ?_ hS ?_; rotate_left; (intro w' hSw; go_simp; try with_reducible rfl); simp only [Act.put, List.setIfInBounds_toArray, List.set_cons_zero, List.set_cons_succ])
            (refine ap_val (v := ?_) 30 rfl (by kernel_rfl) (by kernel_rfl) (by kernel_rfl) (by kernel_rfl) (by rfl) hPan ?_ hS ?_; rotate_left; (intro w' hSw; obtain ⟨f1,f2,f3,f4,f5,f6,f7⟩ := hF w' hSw; go_simp; try with_reducible rfl); simp only [Act.put, List.setIfInBounds_toArray, List.set_cons_zero, List.set_cons_succ])
            have O1 := HO.out.keep0 hS
            clear f1 f2 f3 f4 f5
            generalize wr.drew = wd at *
            obtain ⟨V2, hV2⟩ : ∃ V2, wd.alloc (.cells #[.int .i64 e0, .int .i64 e1, .int .i64 e2, .int .i64 ra, .int .i64 rb] 3) = V2 := ⟨_, rfl⟩
            have KV2 : Keep [] wd V2 := by rw [← hV2]; exact (Keep.refl _ wd).alloc _
            have dV2 : Blk V2 wd.heap.size 3 (iv [e0, e1, e2, ra, rb]).toArray := by rw [← hV2]; exact Blk.new _ _ _
            obtain ⟨V3, hV3⟩ : ∃ V3, V2.alloc (.cells #[.slice (some ⟨wd.heap.size, 0, none⟩) 5 5] 40) = V3 := ⟨_, rfl⟩
            have KV3 : Keep [] V2 V3 := by rw [← hV3]; exact (Keep.refl _ V2).alloc _
            have dV3 : Blk V3 V2.heap.size 40 [.slice (some ⟨wd.heap.size, 0, none⟩) 5 5].toArray := by rw [← hV3]; exact Blk.new _ _ _
            have S2 := hS.then KV2
            have S3 := S2.then KV3
            have O3 := (O1.keep0 KV2).keep0 KV3
            have hksz := O3.keep.size
            have hlen : ((edgesL x c).take k).length = k := by rw [List.length_take, edgesL_len]; omega
            obtain ⟨us, hrow, hIs⟩ := O3.row
            refine ap_one 31 (by kernel_rfl) ?_
            refine op_run (v := .slice (some ⟨wd.heap.size, 0, none⟩) 5 5) (w' := V2) 31 rfl (by rfl) (by rw [← hV2]; go_simp) ?_
            refine ⟨fun _ => S2, ?_⟩
            (simp only [Act.put, List.setIfInBounds_toArray, List.set_cons_zero, List.set_cons_succ])
            refine ap_one 32 (by kernel_rfl) ?_
            refine op_run (v := .slice (some ⟨V2.heap.size, 0, none⟩) 1 1) (w' := V3) 32 rfl (by rfl) (by rw [← hV3]; go_simp) ?_
            refine ⟨fun _ => S3, ?_⟩
            (simp only [Act.put, List.setIfInBounds_toArray, List.set_cons_zero, List.set_cons_succ])
            refine ap_one 33 (by kernel_rfl) ?_
            refine op_app (us := [.slice (some ⟨wd.heap.size, 0, none⟩) 5 5]) 33 1 (.tmp 119) (.tmp 151) 33 rfl (by rfl) rfl slice_intsR hrow rfl rfl dV3.cellsAt rfl (by simp [Value.oneCell']) hksz (by omega) (by unfold maxLen; omega) ?_
            intro v' w5 hown5 hgrow5 _
            have O5 : OwnR wA w5 v' ((edgesL x c).take k ++ [[e0, e1, e2, ra, rb]]) := OwnR.app (c := 5) hrow hIs O3.keep (IntAt.of_blk (dV2.keep0 KV3)) hgrow5 hown5
            refine ⟨fun h => (by cases h), ?_⟩
            (simp only [Act.put, List.setIfInBounds_toArray, List.set_cons_zero, List.set_cons_succ])
            refine ap_one 34 (by kernel_rfl) ?_
            refine op_run (v := v') (w' := w5) 34 rfl (by rfl) (by go_simp) ?_
            refine ⟨fun h => (by cases h), ap_done (by kernel_rfl) ?_ _⟩
            (simp only [Act.put, List.setIfInBounds_toArray, List.set_cons_zero, List.set_cons_succ])
            clear hS hPan hF S2 S3 O1 O3
            go_wp2
            go_roundw
            case rel => exact ⟨k + 1, by omega, by omega, by go_num, by rw [hsj.out]; exact O5⟩
            case measure => simp [intOf]; omega
        · rw [List.take_of_length_le (by rw [edgesL_len]; omega)] at hO
          obtain ⟨AB, nB, cB, rfl⟩ := ownR_lit hO
          have HOB := Lib.hid hO
          have HWB := Lib.hid (HWA.out.then hO.keep)
          have hM8 := (right_of HCHK.out).nm.2
          clear hO
          have hcc : (c.edges.length : Int) ≤ (k : Int) ∨ ((k : Int) < (c.edges.length : Int) ∧ (x.edges.length : Int) ≤ (k : Int)) := by omega
          generalize wr = wB at *
          rcases hcc with q1 | ⟨q1, q2⟩
          · skip
            go_wp2
            go_loopw [7, 13] (fun vL vi wr => ∃ i : Nat, i ≤ x.modes.length ∧ vi = .int .i64 (i : Int) ∧ OwnR wB wr vL ((loadsL x).take i)) (fun _ vi _ => x.modes.length - (intOf vi).toNat)
            case atStart => exact ⟨0, Nat.zero_le _, rfl, OwnR.nil wB⟩
            case round =>
              clear f1 f2 f3 f4 f5 q1
              obtain ⟨i, hi, rfl, hO⟩ := hrel
              obtain ⟨f1, f2, f3, f4, f5⟩ := HB.out wr (HWB.out.then hO.keep)
              by_cases hlt : i < x.modes.length
              · obtain ⟨bm, om, hma, hbm, hmo⟩ := HI.out.mode (by omega)
                obtain ⟨Aq, cq, hmc, _⟩ := hmo i hlt
                have hset := HI.out.ok.set _ (List.getElem_mem hlt)
                have hsj := Lib.hid (loadsL_take x hlt)
                have hL0 := HLd _ hset
                have p0 : (0 : Int) ≤ (i : Int) := by omega
                have p1 : (i : Int) < (x.modes.length : Int) := by omega
                have hF : ∀ w', Keep [] wr w' → w'.cell? ⟨w.heap.size, 2, none⟩ = some (.slice (some ⟨bm, om, none⟩) x.modes.length v.mc) ∧ w'.cell? ⟨bm, om + i * 2, none⟩ = some (.int .u32 (x.modes[i].set : Int)) := fun w' kk => by
                  have K := HWB.out.then (hO.keep.then kk)
                  obtain ⟨_, g2, _, _, _⟩ := HB.out w' K
                  rw [hma] at g2
                  exact ⟨g2, (hmc.keep0 K hbm) 0 _ rfl⟩
                have hIc : ∀ w', Keep [] wr w' → CellsAt w' w.heap.size 0 il := fun w' kk => (HCI w' (HWB.out.then (hO.keep.then kk))).out
                have HO := Lib.hid hO
                have HK9 := Lib.hid (HWB.out.then hO.keep)
                rw [hma] at f2
                clear hO hmo hmc hset HLd HMo HEd HLo HRM HRE HRL HFM HAl
                generalize loadM x x.modes[i].set = lm at *
                generalize x.modes[i].set = st at *
                go_wp2
                refine ap_begin 12 (Keep [] wr) rfl (Keep.refl _ _).drew (fun hS hPan => ?_) (fun _ _ d _ _ h => by cases d <;> exact h)
                (refine ap_val (v := ?_) 0 rfl (by kernel_rfl) (by kernel_rfl) (by kernel_rfl) (by kernel_rfl) (by rfl) hPan ?_ hS ?_; rotate_left; (intro w' hSw; go_simp; try with_reducible rfl); simp only [Act.put, List.setIfInBounds_toArray, List.set_cons_zero, List.set_cons_succ])
                (refine ap_val (v := ?_) 1 rfl (by kernel_rfl) (by kernel_rfl) (by kernel_rfl) (by kernel_rfl) (by rfl) hPan ?_ hS ?_; rotate_left; (intro w' hSw; go_simp; try with_reducible rfl); simp only [Act.put, List.setIfInBounds_toArray, List.set_cons_zero, List.set_cons_succ])
                refine ap_agg 2 26 (.tmp 2) il rfl (by kernel_rfl) (by kernel_rfl) (by kernel_rfl) (by kernel_rfl) (by rfl) hPan rfl rfl (by rw [HIC.out]; exact agg_image) hIc hS ?_
                (simp only [Act.put, List.setIfInBounds_toArray, List.set_cons_zero, List.set_cons_succ])
                (refine ap_val (v := ?_) 3 rfl (by kernel_rfl) (by kernel_rfl) (by kernel_rfl) (by kernel_rfl) (by rfl) hPan ?_ hS ?_; rotate_left; (intro w' hSw; go_simp; try with_reducible rfl); simp only [Act.put, List.setIfInBounds_toArray, List.set_cons_zero, List.set_cons_succ])
                (refine ap_val (v := ?_) 4 rfl (by kernel_rfl) (by kernel_rfl) (by kernel_rfl) (by kernel_rfl) (by rfl) hPan ?_ hS ?_; rotate_left; (intro w' hSw; obtain ⟨g1,g2⟩ := hF w' hSw; go_simp; try with_reducible rfl); simp only [Act.put, List.setIfInBounds_toArray, List.set_cons_zero, List.set_cons_succ])
                (refine ap_val (v := ?_) 5 rfl (by kernel_rfl) (by kernel_rfl) (by kernel_rfl) (by kernel_rfl) (by rfl) hPan ?_ hS ?_; rotate_left; (intro w' hSw; go_simp; try with_reducible rfl); simp only [Act.put, List.setIfInBounds_toArray, List.set_cons_zero, List.set_cons_succ])
                (refine ap_val (v := ?_) 6 rfl (by kernel_rfl) (by kernel_rfl) (by kernel_rfl) (by kernel_rfl) (by rfl) hPan ?_ hS ?_; rotate_left; (intro w' hSw; go_simp; try with_reducible rfl); simp only [Act.put, List.setIfInBounds_toArray, List.set_cons_zero, List.set_cons_succ])
                (refine ap_val (v := ?_) 7 rfl (by kernel_rfl) (by kernel_rfl) (by kernel_rfl) (by kernel_rfl) (by rfl) hPan ?_ hS ?_; rotate_left; (intro w' hSw; go_simp; try with_reducible rfl); simp only [Act.put, List.setIfInBounds_toArray, List.set_cons_zero, List.set_cons_succ])
                (refine ap_val (v := ?_) 8 rfl (by kernel_rfl) (by kernel_rfl) (by kernel_rfl) (by kernel_rfl) (by rfl) hPan ?_ hS ?_; rotate_left; (intro w' hSw; obtain ⟨g1,g2⟩ := hF w' hSw; go_simp; try with_reducible rfl); simp only [Act.put, List.setIfInBounds_toArray, List.set_cons_zero, List.set_cons_succ])
                refine ap_one 9 (by kernel_rfl) ?_
                refine op_call (f := 9) 9 rfl (by rfl) rfl (by simp only [List.map_toArray, List.map_cons, List.map_nil]; rfl) Tryd.func9 (by kernel_rfl) (by kernel_rfl) (hL0 _ (HK9.out.then hS)).out ?_
                rintro e w2 ⟨rfl, k2⟩
                replace hS := hS.then k2
                refine ⟨_, rfl, fun _ => hS, ?_⟩
                clear k2
                (simp only [Act.put, List.setIfInBounds_toArray, List.set_cons_zero, List.set_cons_succ])
                have O1 := HO.out.keep0 hS
                clear f1 f2 f3 f4 f5
                obtain ⟨V2, hV2⟩ : ∃ V2, w2.alloc (.cells #[.int .i64 (i : Int), .int .i64 lm] 3) = V2 := ⟨_, rfl⟩
                have KV2 : Keep [] w2 V2 := by rw [← hV2]; exact (Keep.refl _ w2).alloc _
                have dV2 : Blk V2 w2.heap.size 3 (iv [(i : Int), lm]).toArray := by rw [← hV2]; exact Blk.new _ _ _
                obtain ⟨V3, hV3⟩ : ∃ V3, V2.alloc (.cells #[.slice (some ⟨w2.heap.size, 0, none⟩) 2 2] 40) = V3 := ⟨_, rfl⟩
                have KV3 : Keep [] V2 V3 := by rw [← hV3]; exact (Keep.refl _ V2).alloc _
                have dV3 : Blk V3 V2.heap.size 40 [.slice (some ⟨w2.heap.size, 0, none⟩) 2 2].toArray := by rw [← hV3]; exact Blk.new _ _ _
                have S2 := hS.then KV2
                have S3 := S2.then KV3
                have O3 := (O1.keep0 KV2).keep0 KV3
                have hksz := O3.keep.size
                have hlen : ((loadsL x).take i).length = i := by rw [List.length_take, loadsL_len]; omega
                obtain ⟨us, hrow, hIs⟩ := O3.row
                refine ap_one 10 (by kernel_rfl) ?_
                refine op_run (v := .slice (some ⟨w2.heap.size, 0, none⟩) 2 2) (w' := V2) 10 rfl (by rfl) (by rw [← hV2]; go_simp) ?_
                refine ⟨fun _ => S2, ?_⟩
                (simp only [Act.put, List.setIfInBounds_toArray, List.set_cons_zero, List.set_cons_succ])
                refine ap_one 11 (by kernel_rfl) ?_
                refine op_run (v := .slice (some ⟨V2.heap.size, 0, none⟩) 1 1) (w' := V3) 11 rfl (by rfl) (by rw [← hV3]; go_simp) ?_
                refine ⟨fun _ => S3, ?_⟩
                (simp only [Act.put, List.setIfInBounds_toArray, List.set_cons_zero, List.set_cons_succ])
                refine ap_one 12 (by kernel_rfl) ?_
                refine op_app (us := [.slice (some ⟨w2.heap.size, 0, none⟩) 2 2]) 12 1 (.tmp 160) (.tmp 171) 33 rfl (by rfl) rfl slice_intsR hrow rfl rfl dV3.cellsAt rfl (by simp [Value.oneCell']) hksz (by omega) (by unfold maxLen; omega) ?_
                intro v' w5 hown5 hgrow5 _
                have O5 : OwnR wB w5 v' ((loadsL x).take i ++ [[(i : Int), lm]]) := OwnR.app (c := 2) hrow hIs O3.keep (IntAt.of_blk (dV2.keep0 KV3)) hgrow5 hown5
                refine ⟨fun h => (by cases h), ?_⟩
                (simp only [Act.put, List.setIfInBounds_toArray, List.set_cons_zero, List.set_cons_succ])
                refine ap_one 13 (by kernel_rfl) ?_
                refine op_run (v := v') (w' := w5) 13 rfl (by rfl) (by go_simp) ?_
                refine ⟨fun h => (by cases h), ap_done (by kernel_rfl) ?_ _⟩
                (simp only [Act.put, List.setIfInBounds_toArray, List.set_cons_zero, List.set_cons_succ])
                clear hS hPan hF S2 S3 O1 O3
                go_wp2
                go_roundw
                case rel => exact ⟨i + 1, by omega, by go_num, by rw [hsj.out]; exact O5⟩
                case measure => simp [intOf]; omega
              · obtain rfl : i = x.modes.length := by omega
                rw [List.take_of_length_le (by rw [loadsL_len]; omega)] at hO
                obtain ⟨AC, nC, cC, rfl⟩ := ownR_lit hO
                have HWC := Lib.hid (HWB.out.then hO.keep)
                obtain ⟨eA, hRA⟩ := HOA.out.rows
                obtain ⟨eB, hRB⟩ := HOB.out.rows
                obtain ⟨eC, hRC⟩ := hO.rows
                have HRA := Lib.hid (hRA.keep0 (HOB.out.keep.then hO.keep))
                have HRB := Lib.hid (hRB.keep0 hO.keep)
                have HRC := Lib.hid hRC
                have hlA : (modesL x c).length ≤ 10000 := HML.out
                have hlB : (edgesL x c).length ≤ 100 := by rw [edgesL_len]; omega
                have hlC : (loadsL x).length ≤ 8 := by rw [loadsL_len]; exact hM8
                replace HRM := HRM HOV.out
                replace HRL := HRL hM8
                subst eA eB eC
                clear hO hRA hRB hRC HOA HOB f1 f3 f4 f5 HLd HB
                have hS53 := fun A B c d vs xs w hA hT hB hl hr => Lib.hid (same53_any A B c d vs xs w hA hT hB hl hr)
                have hTA := @modesL_row x c
                have hTB := @edgesL_row x c
                have hTC := @loadsL_row x
                generalize wr = wC at *
                have hfin : ∀ (wd : World) (fr : Act) (Kq : Act → World → Prop), True := fun _ _ _ => trivial
                clear hfin
                generalize modesL x c = ml at *
                rcases (show ml = [] ∨ ∃ r rs, ml = r :: rs by cases ml with | nil => exact .inl rfl | cons r rs => exact .inr ⟨r, rs, rfl⟩) with hml | ⟨r, rs, hml⟩
                · have r0 : decide ((0 : Int) < ((ml.length : Nat) : Int)) = false := by rw [hml]; rfl
                  have r1 : decide (0 < ml.length) = false := by rw [hml]; rfl
                  clear HFM hml
                  go_wp2
                  refine ap_begin 14 (Keep [] wC) rfl (Keep.refl _ _).drew (fun hS hPan => ?_) (fun _ _ d _ _ h => by cases d <;> exact h)
                  (refine ap_val (v := ?_) 0 rfl (by kernel_rfl) (by kernel_rfl) (by kernel_rfl) (by kernel_rfl) (by rfl) hPan ?_ hS ?_; rotate_left; (intro w' hSw; go_simp; try with_reducible rfl); simp only [Act.put, List.setIfInBounds_toArray, List.set_cons_zero, List.set_cons_succ])
                  (refine ap_val (v := ?_) 1 rfl (by kernel_rfl) (by kernel_rfl) (by kernel_rfl) (by kernel_rfl) (by rfl) hPan ?_ hS ?_; rotate_left; (intro w' hSw; go_simp; try with_reducible rfl); simp only [Act.put, List.setIfInBounds_toArray, List.set_cons_zero, List.set_cons_succ])
                  (refine ap_val (v := ?_) 2 rfl (by kernel_rfl) (by kernel_rfl) (by kernel_rfl) (by kernel_rfl) (by rfl) hPan ?_ hS ?_; rotate_left; (intro w' hSw; go_simp; try with_reducible rfl); simp only [Act.put, List.setIfInBounds_toArray, List.set_cons_zero, List.set_cons_succ])
                  (refine ap_val (v := ?_) 3 rfl (by kernel_rfl) (by kernel_rfl) (by kernel_rfl) (by kernel_rfl) (by rfl) hPan ?_ hS ?_; rotate_left; (intro w' hSw; go_simp; try with_reducible rfl); simp only [Act.put, List.setIfInBounds_toArray, List.set_cons_zero, List.set_cons_succ])
                  (refine ap_off 4 rfl (by kernel_rfl) (by kernel_rfl) (by kernel_rfl) (by kernel_rfl) (by rfl) hPan hS ?_; simp only [Act.put, List.setIfInBounds_toArray, List.set_cons_zero, List.set_cons_succ])
                  (refine ap_off 5 rfl (by kernel_rfl) (by kernel_rfl) (by kernel_rfl) (by kernel_rfl) (by rfl) hPan hS ?_; simp only [Act.put, List.setIfInBounds_toArray, List.set_cons_zero, List.set_cons_succ])
                  (refine ap_off 6 rfl (by kernel_rfl) (by kernel_rfl) (by kernel_rfl) (by kernel_rfl) (by rfl) hPan hS ?_; simp only [Act.put, List.setIfInBounds_toArray, List.set_cons_zero, List.set_cons_succ])
                  (refine ap_off 7 rfl (by kernel_rfl) (by kernel_rfl) (by kernel_rfl) (by kernel_rfl) (by rfl) hPan hS ?_; simp only [Act.put, List.setIfInBounds_toArray, List.set_cons_zero, List.set_cons_succ])
                  (refine ap_off 8 rfl (by kernel_rfl) (by kernel_rfl) (by kernel_rfl) (by kernel_rfl) (by rfl) hPan hS ?_; simp only [Act.put, List.setIfInBounds_toArray, List.set_cons_zero, List.set_cons_succ])
                  (refine ap_off 9 rfl (by kernel_rfl) (by kernel_rfl) (by kernel_rfl) (by kernel_rfl) (by rfl) hPan hS ?_; simp only [Act.put, List.setIfInBounds_toArray, List.set_cons_zero, List.set_cons_succ])
                  (refine ap_off 10 rfl (by kernel_rfl) (by kernel_rfl) (by kernel_rfl) (by kernel_rfl) (by rfl) hPan hS ?_; simp only [Act.put, List.setIfInBounds_toArray, List.set_cons_zero, List.set_cons_succ])
                  (refine ap_off 11 rfl (by kernel_rfl) (by kernel_rfl) (by kernel_rfl) (by kernel_rfl) (by rfl) hPan hS ?_; simp only [Act.put, List.setIfInBounds_toArray, List.set_cons_zero, List.set_cons_succ])
                  (refine ap_off 12 rfl (by kernel_rfl) (by kernel_rfl) (by kernel_rfl) (by kernel_rfl) (by rfl) hPan hS ?_; simp only [Act.put, List.setIfInBounds_toArray, List.set_cons_zero, List.set_cons_succ])
                  (refine ap_off 13 rfl (by kernel_rfl) (by kernel_rfl) (by kernel_rfl) (by kernel_rfl) (by rfl) hPan hS ?_; simp only [Act.put, List.setIfInBounds_toArray, List.set_cons_zero, List.set_cons_succ])
                  refine ap_one 14 (by kernel_rfl) ?_
                  refine op_run (v := .bool false) (w' := wC.drew) 14 rfl (by rfl) (by go_simp) ?_
                  refine ⟨fun h => (by cases h), ap_done (by kernel_rfl) ?_ _⟩
                  (simp only [Act.put, List.setIfInBounds_toArray, List.set_cons_zero, List.set_cons_succ])
                  obtain ⟨wE, hwE⟩ : ∃ wE, wC.drew = wE := ⟨_, rfl⟩
                  rw [hwE] at hS ⊢
                  clear hwE hPan
                  have HWE := Lib.hid (HWC.out.then hS)
                  replace HRA := Lib.hid (HRA.out.keep0 hS)
                  replace HRB := Lib.hid (HRB.out.keep0 hS)
                  replace HRC := Lib.hid (HRC.out.keep0 hS)
                  have z0 := HCI wE HWE.out
                  have z1 := HCX wE HWE.out
                  clear hS
                  go_wp2_with (first
                    | (refine wpList_load_agg rfl 26 (.tmp 2) rfl rfl (cs := il) (by rw [HIC.out]; exact agg_image) z0.out ?_)
                    | (refine wpList_load_agg rfl 30 (.tmp 3) rfl rfl (cs := cl) (by rw [HCC.out]; exact agg_cert) z1.out ?_))
                  refine (HMo wE).out.mono ?_
                  rintro e y1 ⟨rfl, hy1⟩
                  have j1 : Keep [] wE y1 := by rw [← hy1]; exact ((Keep.refl [] wE).alloc _).alloc _
                  have C1 := Lib.hid ((HRM wE HWE.out).out y1 hy1)
                  clear hy1 z0 z1
                  go_wp2_with fail
                  refine C1.out.mono ?_
                  rintro e y2 ⟨A2, c2, vs2, rfl, hrd2, hts2, j2⟩
                  have j12 := j1.then j2
                  have C2 := hS53 A2 _ c2 cA vs2 ml y2 hrd2 hts2 (HRA.out.keep0 j12) (by omega) hTA
                  have J2 := Lib.hid j12
                  clear hrd2 hts2 j1 j2 j12 C1
                  go_wp2_with fail
                  refine C2.out.mono ?_
                  rintro e y3 ⟨rfl, j3⟩
                  have J3 := Lib.hid (J2.out.then j3)
                  have z0 := HCI y3 (HWE.out.then J3.out)
                  have z1 := HCX y3 (HWE.out.then J3.out)
                  clear j3 C2
                  go_wp2_with (first
                    | (refine wpList_agg_gd rfl 26 (.tmp 2) rfl rfl (cs := il) (by rw [HIC.out]; exact agg_image) z0.out ?_)
                    | (refine wpList_agg_gd rfl 30 (.tmp 3) rfl rfl (cs := cl) (by rw [HCC.out]; exact agg_cert) z1.out ?_))
                  refine (HEd y3).out.mono ?_
                  rintro e y4 ⟨rfl, hy4⟩
                  have j4 : Keep [] y3 y4 := by rw [← hy4]; exact ((Keep.refl [] y3).alloc _).alloc _
                  have C1 := Lib.hid ((HRE y3 (HWE.out.then J3.out)).out y4 hy4)
                  clear hy4 z0 z1
                  go_wp2_with fail
                  refine C1.out.mono ?_
                  rintro e y5 ⟨A5, c5, vs5, rfl, hrd5, hts5, j5⟩
                  have j45 := J3.out.then (j4.then j5)
                  have C2 := hS53 A5 _ c5 cB vs5 (edgesL x c) y5 hrd5 hts5 (HRB.out.keep0 j45) (by omega) hTB
                  have J5 := Lib.hid j45
                  clear hrd5 hts5 j4 j5 j45 C1
                  go_wp2_with fail
                  refine C2.out.mono ?_
                  rintro e y6 ⟨rfl, j6⟩
                  have J6 := Lib.hid (J5.out.then j6)
                  have z0 := HCI y6 (HWE.out.then J6.out)
                  clear j6 C2
                  go_wp2_with (refine wpList_agg_gd rfl 26 (.tmp 2) rfl rfl (cs := il) (by rw [HIC.out]; exact agg_image) z0.out ?_)
                  refine (HLo y6).out.mono ?_
                  rintro e y7 ⟨rfl, hy7⟩
                  have j7 : Keep [] y6 y7 := by rw [← hy7]; exact (Keep.refl [] y6).alloc _
                  have C1 := Lib.hid ((HRL y6 (HWE.out.then J6.out)).out y7 hy7)
                  clear hy7 z0
                  go_wp2_with fail
                  refine C1.out.mono ?_
                  rintro e y8 ⟨A8, c8, vs8, rfl, hrd8, hts8, j8⟩
                  have j78 := J6.out.then (j7.then j8)
                  have C2 := hS53 A8 _ c8 cC vs8 (loadsL x) y8 hrd8 hts8 (HRC.out.keep0 j78) (by omega) hTC
                  have J8 := Lib.hid j78
                  clear hrd8 hts8 j7 j8 j78 C1
                  go_wp2_with fail
                  refine C2.out.mono ?_
                  rintro e y9 ⟨rfl, j9⟩
                  have J9 := Lib.hid (J8.out.then j9)
                  clear j9 C2
                  go_wp2_with fail
                  refine (HAl y9).out.mono ?_
                  rintro e y10 ⟨rfl, j10⟩
                  go_wp2
                  go_ret
                  exact ⟨rfl, HK0.out.then (HWE.out.then (J9.out.then j10))⟩
                · have hfm := fun wz kk => HFM r rs HOV.out hml wz kk
                  have r3 : 0 < ml.length := by rw [hml]; exact Nat.zero_lt_succ _
                  have hm0 : ml[0] = r := by simp [hml]
                  have hrm : r ∈ ml := by rw [hml]; simp
                  clear HFM hml
                  obtain ⟨usA, hRdA, hIA⟩ := HRA.out.rd
                  obtain ⟨bA, oA, uA, hAA, hbA, huA, hcA0⟩ := hRdA.at_ (k := 0) r3
                  obtain ⟨A0, c0, e0, hi0⟩ := hIA 0 r3
                  rw [huA] at e0
                  cases e0
                  rw [hm0] at hcA0 hi0
                  have hF0 : ∀ w', Keep [] wC w' → w'.cell? ⟨bA, oA, none⟩ = some (.slice A0 r.length c0) ∧ True := fun w' kk => ⟨(kk.cell (p := ⟨bA, oA, none⟩) hbA (by simp)).trans hcA0, trivial⟩
                  have hIr : ∀ w', Keep [] wC w' → Reads w' 1 A0 r.length (iv r) := fun w' kk => hi0.keep0 kk
                  have hr100 := hTA r hrm
                  have hIc : ∀ w', Keep [] wC w' → CellsAt w' w.heap.size 0 il := fun w' kk => (HCI w' (HWC.out.then kk)).out
                  have hCc : ∀ w', Keep [] wC w' → CellsAt w' (w.heap.size + 1) 0 cl := fun w' kk => (HCX w' (HWC.out.then kk)).out
                  have r0 : decide ((0 : Int) < ((ml.length : Nat) : Int)) = true := decide_eq_true (by omega)
                  have r1 : decide (0 < ml.length) = true := decide_eq_true r3
                  have r2 : (0 : Int) < ((ml.length : Nat) : Int) := by omega
                  have hRT := fun A c l w h hl => Lib.hid (rtexts_any A c l w h hl)
                  have hEQ := fun A B c d l w hA hB hl => Lib.hid (sEqual_any A B c d l l w hA hB hl hl)
                  clear huA hcA0 hi0 hIA hRdA
                  subst hAA
                  go_wp2
                  refine ap_begin 14 (Keep [] wC) rfl (Keep.refl _ _).drew (fun hS hPan => ?_) (fun _ _ d _ _ h => by cases d <;> exact h)
                  (refine ap_val (v := ?_) 0 rfl (by kernel_rfl) (by kernel_rfl) (by kernel_rfl) (by kernel_rfl) (by rfl) hPan ?_ hS ?_; rotate_left; (intro w' hSw; go_simp; try with_reducible rfl); simp only [Act.put, List.setIfInBounds_toArray, List.set_cons_zero, List.set_cons_succ])
                  (refine ap_val (v := ?_) 1 rfl (by kernel_rfl) (by kernel_rfl) (by kernel_rfl) (by kernel_rfl) (by rfl) hPan ?_ hS ?_; rotate_left; (intro w' hSw; go_simp; try with_reducible rfl); simp only [Act.put, List.setIfInBounds_toArray, List.set_cons_zero, List.set_cons_succ])
                  refine ap_val (v := .bool true) 2 rfl (by kernel_rfl) (by kernel_rfl) (by kernel_rfl) (by kernel_rfl) (by rfl) hPan ?_ hS ?_
                  · intro w' hSw; go_simp; first | done | exact r0 | exact r1
                  (simp only [Act.put, List.setIfInBounds_toArray, List.set_cons_zero, List.set_cons_succ])
                  (refine ap_val (v := ?_) 3 rfl (by kernel_rfl) (by kernel_rfl) (by kernel_rfl) (by kernel_rfl) (by rfl) hPan ?_ hS ?_; rotate_left; (intro w' hSw; go_simp; try with_reducible rfl); simp only [Act.put, List.setIfInBounds_toArray, List.set_cons_zero, List.set_cons_succ])
                  refine ap_agg 4 26 (.tmp 2) il rfl (by kernel_rfl) (by kernel_rfl) (by kernel_rfl) (by kernel_rfl) (by rfl) hPan rfl rfl (by rw [HIC.out]; exact agg_image) hIc hS ?_
                  (simp only [Act.put, List.setIfInBounds_toArray, List.set_cons_zero, List.set_cons_succ])
                  refine ap_agg 5 30 (.tmp 3) cl rfl (by kernel_rfl) (by kernel_rfl) (by kernel_rfl) (by kernel_rfl) (by rfl) hPan rfl rfl (by rw [HCC.out]; exact agg_cert) hCc hS ?_
                  (simp only [Act.put, List.setIfInBounds_toArray, List.set_cons_zero, List.set_cons_succ])
                  (refine ap_val (v := ?_) 8 rfl (by kernel_rfl) (by kernel_rfl) (by kernel_rfl) (by kernel_rfl) (by rfl) hPan ?_ hS ?_; rotate_left; (intro w' hSw; go_simp; try with_reducible rfl); simp only [Act.put, List.setIfInBounds_toArray, List.set_cons_zero, List.set_cons_succ])
                  (refine ap_val (v := ?_) 9 rfl (by kernel_rfl) (by kernel_rfl) (by kernel_rfl) (by kernel_rfl) (by rfl) hPan ?_ hS ?_; rotate_left; (intro w' hSw; go_simp; try with_reducible rfl); simp only [Act.put, List.setIfInBounds_toArray, List.set_cons_zero, List.set_cons_succ])
                  (refine ap_val (v := ?_) 10 rfl (by kernel_rfl) (by kernel_rfl) (by kernel_rfl) (by kernel_rfl) (by rfl) hPan ?_ hS ?_; rotate_left; (intro w' hSw; obtain ⟨g1,g2⟩ := hF0 w' hSw; go_simp; try with_reducible rfl); simp only [Act.put, List.setIfInBounds_toArray, List.set_cons_zero, List.set_cons_succ])
                  have hS0 := hS
                  generalize wC.drew = wd at *
                  refine ap_one 6 (by kernel_rfl) ?_
                  refine op_call (f := 12) 6 rfl (by rfl) rfl (by simp only [List.map_toArray, List.map_cons, List.map_nil]; rfl) Tryd.func12 (by kernel_rfl) (by kernel_rfl) (HMo wd).out ?_
                  rintro e w2 ⟨rfl, hw2⟩
                  have k2 : Keep [] wd w2 := by rw [← hw2]; exact ((Keep.refl [] wd).alloc _).alloc _
                  have hfm2 := hfm wd (HWC.out.then hS) 
                  have hfm3 := hfm2.out w2 hw2
                  replace hS := hS.then k2
                  refine ⟨_, rfl, fun _ => hS, ?_⟩
                  clear hfm2 hw2
                  (simp only [Act.put, List.setIfInBounds_toArray, List.set_cons_zero, List.set_cons_succ])
                  refine ap_one 7 (by kernel_rfl) ?_
                  refine op_call (f := 11) 7 rfl (by rfl) rfl (by simp only [List.map_toArray, List.map_cons, List.map_nil]; rfl) Tryd.func11 (by kernel_rfl) (by kernel_rfl) hfm3 ?_
                  rintro e w3 ⟨Af, cf, rfl, htf, k3⟩
                  replace hS := hS.then k3
                  refine ⟨_, rfl, fun _ => hS, ?_⟩
                  clear hfm3
                  (simp only [Act.put, List.setIfInBounds_toArray, List.set_cons_zero, List.set_cons_succ])
                  refine ap_one 11 (by kernel_rfl) ?_
                  refine op_call (f := 13) 11 rfl (by rfl) rfl (by simp only [List.map_toArray, List.map_cons, List.map_nil]; rfl) Tryd.func13 (by kernel_rfl) (by kernel_rfl) (hRT A0 c0 r w3 (hIr _ hS) (by omega)).out ?_
                  rintro e w4 ⟨A4, c4, rfl, hown4, k4⟩
                  have hE := hEQ Af A4 cf c4 (txts r) w4 (htf.rd.keep0 k4) (Reads.of_own hown4) (by rw [txts_len]; omega)
                  rw [decide_true] at hE
                  replace hS := hS.then k4
                  refine ⟨_, rfl, fun _ => hS, ?_⟩
                  clear k4 hown4
                  (simp only [Act.put, List.setIfInBounds_toArray, List.set_cons_zero, List.set_cons_succ])
                  refine ap_one 12 (by kernel_rfl) ?_
                  refine op_call (f := 10) 12 rfl (by rfl) rfl (by simp only [List.map_toArray, List.map_cons, List.map_nil]; rfl) Tryd.func10 (by kernel_rfl) (by kernel_rfl) hE.out ?_
                  rintro e w5 ⟨rfl, k5⟩
                  replace hS := hS.then k5
                  refine ⟨_, rfl, fun _ => hS, ?_⟩
                  clear k5 hE
                  (simp only [Act.put, List.setIfInBounds_toArray, List.set_cons_zero, List.set_cons_succ])
                  (refine ap_val (v := ?_) 13 rfl (by kernel_rfl) (by kernel_rfl) (by kernel_rfl) (by kernel_rfl) (by rfl) hPan ?_ hS ?_; rotate_left; (intro w' hSw; go_simp; try with_reducible rfl); simp only [Act.put, List.setIfInBounds_toArray, List.set_cons_zero, List.set_cons_succ])
                  refine ap_one 14 (by kernel_rfl) ?_
                  refine op_run (v := .bool false) (w' := w5) 14 rfl (by rfl) (by go_simp) ?_
                  refine ⟨fun h => (by cases h), ap_done (by kernel_rfl) ?_ _⟩
                  (simp only [Act.put, List.setIfInBounds_toArray, List.set_cons_zero, List.set_cons_succ])
                  obtain ⟨wE, hwE⟩ : ∃ wE, w5 = wE := ⟨_, rfl⟩
                  rw [hwE] at hS ⊢
                  clear hwE hPan hS0 hF0 hIr hIc hCc hEQ hRT
                  have HWE := Lib.hid (HWC.out.then hS)
                  replace HRA := Lib.hid (HRA.out.keep0 hS)
                  replace HRB := Lib.hid (HRB.out.keep0 hS)
                  replace HRC := Lib.hid (HRC.out.keep0 hS)
                  have z0 := HCI wE HWE.out
                  have z1 := HCX wE HWE.out
                  clear hS
                  go_wp2_with (first
                    | (refine wpList_load_agg rfl 26 (.tmp 2) rfl rfl (cs := il) (by rw [HIC.out]; exact agg_image) z0.out ?_)
                    | (refine wpList_load_agg rfl 30 (.tmp 3) rfl rfl (cs := cl) (by rw [HCC.out]; exact agg_cert) z1.out ?_))
                  refine (HMo wE).out.mono ?_
                  rintro e y1 ⟨rfl, hy1⟩
                  have j1 : Keep [] wE y1 := by rw [← hy1]; exact ((Keep.refl [] wE).alloc _).alloc _
                  have C1 := Lib.hid ((HRM wE HWE.out).out y1 hy1)
                  clear hy1 z0 z1
                  go_wp2_with fail
                  refine C1.out.mono ?_
                  rintro e y2 ⟨A2, c2, vs2, rfl, hrd2, hts2, j2⟩
                  have j12 := j1.then j2
                  have C2 := hS53 A2 _ c2 cA vs2 ml y2 hrd2 hts2 (HRA.out.keep0 j12) (by omega) hTA
                  have J2 := Lib.hid j12
                  clear hrd2 hts2 j1 j2 j12 C1
                  go_wp2_with fail
                  refine C2.out.mono ?_
                  rintro e y3 ⟨rfl, j3⟩
                  have J3 := Lib.hid (J2.out.then j3)
                  have z0 := HCI y3 (HWE.out.then J3.out)
                  have z1 := HCX y3 (HWE.out.then J3.out)
                  clear j3 C2
                  go_wp2_with (first
                    | (refine wpList_agg_gd rfl 26 (.tmp 2) rfl rfl (cs := il) (by rw [HIC.out]; exact agg_image) z0.out ?_)
                    | (refine wpList_agg_gd rfl 30 (.tmp 3) rfl rfl (cs := cl) (by rw [HCC.out]; exact agg_cert) z1.out ?_))
                  refine (HEd y3).out.mono ?_
                  rintro e y4 ⟨rfl, hy4⟩
                  have j4 : Keep [] y3 y4 := by rw [← hy4]; exact ((Keep.refl [] y3).alloc _).alloc _
                  have C1 := Lib.hid ((HRE y3 (HWE.out.then J3.out)).out y4 hy4)
                  clear hy4 z0 z1
                  go_wp2_with fail
                  refine C1.out.mono ?_
                  rintro e y5 ⟨A5, c5, vs5, rfl, hrd5, hts5, j5⟩
                  have j45 := J3.out.then (j4.then j5)
                  have C2 := hS53 A5 _ c5 cB vs5 (edgesL x c) y5 hrd5 hts5 (HRB.out.keep0 j45) (by omega) hTB
                  have J5 := Lib.hid j45
                  clear hrd5 hts5 j4 j5 j45 C1
                  go_wp2_with fail
                  refine C2.out.mono ?_
                  rintro e y6 ⟨rfl, j6⟩
                  have J6 := Lib.hid (J5.out.then j6)
                  have z0 := HCI y6 (HWE.out.then J6.out)
                  clear j6 C2
                  go_wp2_with (refine wpList_agg_gd rfl 26 (.tmp 2) rfl rfl (cs := il) (by rw [HIC.out]; exact agg_image) z0.out ?_)
                  refine (HLo y6).out.mono ?_
                  rintro e y7 ⟨rfl, hy7⟩
                  have j7 : Keep [] y6 y7 := by rw [← hy7]; exact (Keep.refl [] y6).alloc _
                  have C1 := Lib.hid ((HRL y6 (HWE.out.then J6.out)).out y7 hy7)
                  clear hy7 z0
                  go_wp2_with fail
                  refine C1.out.mono ?_
                  rintro e y8 ⟨A8, c8, vs8, rfl, hrd8, hts8, j8⟩
                  have j78 := J6.out.then (j7.then j8)
                  have C2 := hS53 A8 _ c8 cC vs8 (loadsL x) y8 hrd8 hts8 (HRC.out.keep0 j78) (by omega) hTC
                  have J8 := Lib.hid j78
                  clear hrd8 hts8 j7 j8 j78 C1
                  go_wp2_with fail
                  refine C2.out.mono ?_
                  rintro e y9 ⟨rfl, j9⟩
                  have J9 := Lib.hid (J8.out.then j9)
                  clear j9 C2
                  go_wp2_with fail
                  refine (HAl y9).out.mono ?_
                  rintro e y10 ⟨rfl, j10⟩
                  go_wp2
                  go_ret
                  exact ⟨rfl, HK0.out.then (HWE.out.then (J9.out.then j10))⟩
          · skip
            go_wp2
            go_loopw [7, 13] (fun vL vi wr => ∃ i : Nat, i ≤ x.modes.length ∧ vi = .int .i64 (i : Int) ∧ OwnR wB wr vL ((loadsL x).take i)) (fun _ vi _ => x.modes.length - (intOf vi).toNat)
            case atStart => exact ⟨0, Nat.zero_le _, rfl, OwnR.nil wB⟩
            case round =>
              clear f1 f2 f3 f4 f5 q1 q2
              obtain ⟨i, hi, rfl, hO⟩ := hrel
              obtain ⟨f1, f2, f3, f4, f5⟩ := HB.out wr (HWB.out.then hO.keep)
              by_cases hlt : i < x.modes.length
              · obtain ⟨bm, om, hma, hbm, hmo⟩ := HI.out.mode (by omega)
                obtain ⟨Aq, cq, hmc, _⟩ := hmo i hlt
                have hset := HI.out.ok.set _ (List.getElem_mem hlt)
                have hsj := Lib.hid (loadsL_take x hlt)
                have hL0 := HLd _ hset
                have p0 : (0 : Int) ≤ (i : Int) := by omega
                have p1 : (i : Int) < (x.modes.length : Int) := by omega
                have hF : ∀ w', Keep [] wr w' → w'.cell? ⟨w.heap.size, 2, none⟩ = some (.slice (some ⟨bm, om, none⟩) x.modes.length v.mc) ∧ w'.cell? ⟨bm, om + i * 2, none⟩ = some (.int .u32 (x.modes[i].set : Int)) := fun w' kk => by
                  have K := HWB.out.then (hO.keep.then kk)
                  obtain ⟨_, g2, _, _, _⟩ := HB.out w' K
                  rw [hma] at g2
                  exact ⟨g2, (hmc.keep0 K hbm) 0 _ rfl⟩
                have hIc : ∀ w', Keep [] wr w' → CellsAt w' w.heap.size 0 il := fun w' kk => (HCI w' (HWB.out.then (hO.keep.then kk))).out
                have HO := Lib.hid hO
                have HK9 := Lib.hid (HWB.out.then hO.keep)
                rw [hma] at f2
                clear hO hmo hmc hset HLd HMo HEd HLo HRM HRE HRL HFM HAl
                generalize loadM x x.modes[i].set = lm at *
                generalize x.modes[i].set = st at *
                go_wp2
                refine ap_begin 12 (Keep [] wr) rfl (Keep.refl _ _).drew (fun hS hPan => ?_) (fun _ _ d _ _ h => by cases d <;> exact h)
                (refine ap_val (v := ?_) 0 rfl (by kernel_rfl) (by kernel_rfl) (by kernel_rfl) (by kernel_rfl) (by rfl) hPan ?_ hS ?_; rotate_left; (intro w' hSw; go_simp; try with_reducible rfl); simp only [Act.put, List.setIfInBounds_toArray, List.set_cons_zero, List.set_cons_succ])
                (refine ap_val (v := ?_) 1 rfl (by kernel_rfl) (by kernel_rfl) (by kernel_rfl) (by kernel_rfl) (by rfl) hPan ?_ hS ?_; rotate_left; (intro w' hSw; go_simp; try with_reducible rfl); simp only [Act.put, List.setIfInBounds_toArray, List.set_cons_zero, List.set_cons_succ])
                refine ap_agg 2 26 (.tmp 2) il rfl (by kernel_rfl) (by kernel_rfl) (by kernel_rfl) (by kernel_rfl) (by rfl) hPan rfl rfl (by rw [HIC.out]; exact agg_image) hIc hS ?_
                (simp only [Act.put, List.setIfInBounds_toArray, List.set_cons_zero, List.set_cons_succ])
                (refine ap_val (v := ?_) 3 rfl (by kernel_rfl) (by kernel_rfl) (by kernel_rfl) (by kernel_rfl) (by rfl) hPan ?_ hS ?_; rotate_left; (intro w' hSw; go_simp; try with_reducible rfl); simp only [Act.put, List.setIfInBounds_toArray, List.set_cons_zero, List.set_cons_succ])
                (refine ap_val (v := ?_) 4 rfl (by kernel_rfl) (by kernel_rfl) (by kernel_rfl) (by kernel_rfl) (by rfl) hPan ?_ hS ?_; rotate_left; (intro w' hSw; obtain ⟨g1,g2⟩ := hF w' hSw; go_simp; try with_reducible rfl); simp only [Act.put, List.setIfInBounds_toArray, List.set_cons_zero, List.set_cons_succ])
                (refine ap_val (v := ?_) 5 rfl (by kernel_rfl) (by kernel_rfl) (by kernel_rfl) (by kernel_rfl) (by rfl) hPan ?_ hS ?_; rotate_left; (intro w' hSw; go_simp; try with_reducible rfl); simp only [Act.put, List.setIfInBounds_toArray, List.set_cons_zero, List.set_cons_succ])
                (refine ap_val (v := ?_) 6 rfl (by kernel_rfl) (by kernel_rfl) (by kernel_rfl) (by kernel_rfl) (by rfl) hPan ?_ hS ?_; rotate_left; (intro w' hSw; go_simp; try with_reducible rfl); simp only [Act.put, List.setIfInBounds_toArray, List.set_cons_zero, List.set_cons_succ])
                (refine ap_val (v := ?_) 7 rfl (by kernel_rfl) (by kernel_rfl) (by kernel_rfl) (by kernel_rfl) (by rfl) hPan ?_ hS ?_; rotate_left; (intro w' hSw; go_simp; try with_reducible rfl); simp only [Act.put, List.setIfInBounds_toArray, List.set_cons_zero, List.set_cons_succ])
                (refine ap_val (v := ?_) 8 rfl (by kernel_rfl) (by kernel_rfl) (by kernel_rfl) (by kernel_rfl) (by rfl) hPan ?_ hS ?_; rotate_left; (intro w' hSw; obtain ⟨g1,g2⟩ := hF w' hSw; go_simp; try with_reducible rfl); simp only [Act.put, List.setIfInBounds_toArray, List.set_cons_zero, List.set_cons_succ])
                refine ap_one 9 (by kernel_rfl) ?_
                refine op_call (f := 9) 9 rfl (by rfl) rfl (by simp only [List.map_toArray, List.map_cons, List.map_nil]; rfl) Tryd.func9 (by kernel_rfl) (by kernel_rfl) (hL0 _ (HK9.out.then hS)).out ?_
                rintro e w2 ⟨rfl, k2⟩
                replace hS := hS.then k2
                refine ⟨_, rfl, fun _ => hS, ?_⟩
                clear k2
                (simp only [Act.put, List.setIfInBounds_toArray, List.set_cons_zero, List.set_cons_succ])
                have O1 := HO.out.keep0 hS
                clear f1 f2 f3 f4 f5
                obtain ⟨V2, hV2⟩ : ∃ V2, w2.alloc (.cells #[.int .i64 (i : Int), .int .i64 lm] 3) = V2 := ⟨_, rfl⟩
                have KV2 : Keep [] w2 V2 := by rw [← hV2]; exact (Keep.refl _ w2).alloc _
                have dV2 : Blk V2 w2.heap.size 3 (iv [(i : Int), lm]).toArray := by rw [← hV2]; exact Blk.new _ _ _
                obtain ⟨V3, hV3⟩ : ∃ V3, V2.alloc (.cells #[.slice (some ⟨w2.heap.size, 0, none⟩) 2 2] 40) = V3 := ⟨_, rfl⟩
                have KV3 : Keep [] V2 V3 := by rw [← hV3]; exact (Keep.refl _ V2).alloc _
                have dV3 : Blk V3 V2.heap.size 40 [.slice (some ⟨w2.heap.size, 0, none⟩) 2 2].toArray := by rw [← hV3]; exact Blk.new _ _ _
                have S2 := hS.then KV2
                have S3 := S2.then KV3
                have O3 := (O1.keep0 KV2).keep0 KV3
                have hksz := O3.keep.size
                have hlen : ((loadsL x).take i).length = i := by rw [List.length_take, loadsL_len]; omega
                obtain ⟨us, hrow, hIs⟩ := O3.row
                refine ap_one 10 (by kernel_rfl) ?_
                refine op_run (v := .slice (some ⟨w2.heap.size, 0, none⟩) 2 2) (w' := V2) 10 rfl (by rfl) (by rw [← hV2]; go_simp) ?_
                refine ⟨fun _ => S2, ?_⟩
                (simp only [Act.put, List.setIfInBounds_toArray, List.set_cons_zero, List.set_cons_succ])
                refine ap_one 11 (by kernel_rfl) ?_
                refine op_run (v := .slice (some ⟨V2.heap.size, 0, none⟩) 1 1) (w' := V3) 11 rfl (by rfl) (by rw [← hV3]; go_simp) ?_
                refine ⟨fun _ => S3, ?_⟩
                (simp only [Act.put, List.setIfInBounds_toArray, List.set_cons_zero, List.set_cons_succ])
                refine ap_one 12 (by kernel_rfl) ?_
                refine op_app (us := [.slice (some ⟨w2.heap.size, 0, none⟩) 2 2]) 12 1 (.tmp 160) (.tmp 171) 33 rfl (by rfl) rfl slice_intsR hrow rfl rfl dV3.cellsAt rfl (by simp [Value.oneCell']) hksz (by omega) (by unfold maxLen; omega) ?_
                intro v' w5 hown5 hgrow5 _
                have O5 : OwnR wB w5 v' ((loadsL x).take i ++ [[(i : Int), lm]]) := OwnR.app (c := 2) hrow hIs O3.keep (IntAt.of_blk (dV2.keep0 KV3)) hgrow5 hown5
                refine ⟨fun h => (by cases h), ?_⟩
                (simp only [Act.put, List.setIfInBounds_toArray, List.set_cons_zero, List.set_cons_succ])
                refine ap_one 13 (by kernel_rfl) ?_
                refine op_run (v := v') (w' := w5) 13 rfl (by rfl) (by go_simp) ?_
                refine ⟨fun h => (by cases h), ap_done (by kernel_rfl) ?_ _⟩
                (simp only [Act.put, List.setIfInBounds_toArray, List.set_cons_zero, List.set_cons_succ])
                clear hS hPan hF S2 S3 O1 O3
                go_wp2
                go_roundw
                case rel => exact ⟨i + 1, by omega, by go_num, by rw [hsj.out]; exact O5⟩
                case measure => simp [intOf]; omega
              · obtain rfl : i = x.modes.length := by omega
                rw [List.take_of_length_le (by rw [loadsL_len]; omega)] at hO
                obtain ⟨AC, nC, cC, rfl⟩ := ownR_lit hO
                have HWC := Lib.hid (HWB.out.then hO.keep)
                obtain ⟨eA, hRA⟩ := HOA.out.rows
                obtain ⟨eB, hRB⟩ := HOB.out.rows
                obtain ⟨eC, hRC⟩ := hO.rows
                have HRA := Lib.hid (hRA.keep0 (HOB.out.keep.then hO.keep))
                have HRB := Lib.hid (hRB.keep0 hO.keep)
                have HRC := Lib.hid hRC
                have hlA : (modesL x c).length ≤ 10000 := HML.out
                have hlB : (edgesL x c).length ≤ 100 := by rw [edgesL_len]; omega
                have hlC : (loadsL x).length ≤ 8 := by rw [loadsL_len]; exact hM8
                replace HRM := HRM HOV.out
                replace HRL := HRL hM8
                subst eA eB eC
                clear hO hRA hRB hRC HOA HOB f1 f3 f4 f5 HLd HB
                have hS53 := fun A B c d vs xs w hA hT hB hl hr => Lib.hid (same53_any A B c d vs xs w hA hT hB hl hr)
                have hTA := @modesL_row x c
                have hTB := @edgesL_row x c
                have hTC := @loadsL_row x
                generalize wr = wC at *
                have hfin : ∀ (wd : World) (fr : Act) (Kq : Act → World → Prop), True := fun _ _ _ => trivial
                clear hfin
                generalize modesL x c = ml at *
                rcases (show ml = [] ∨ ∃ r rs, ml = r :: rs by cases ml with | nil => exact .inl rfl | cons r rs => exact .inr ⟨r, rs, rfl⟩) with hml | ⟨r, rs, hml⟩
                · have r0 : decide ((0 : Int) < ((ml.length : Nat) : Int)) = false := by rw [hml]; rfl
                  have r1 : decide (0 < ml.length) = false := by rw [hml]; rfl
                  clear HFM hml
                  go_wp2
                  refine ap_begin 14 (Keep [] wC) rfl (Keep.refl _ _).drew (fun hS hPan => ?_) (fun _ _ d _ _ h => by cases d <;> exact h)
                  (refine ap_val (v := ?_) 0 rfl (by kernel_rfl) (by kernel_rfl) (by kernel_rfl) (by kernel_rfl) (by rfl) hPan ?_ hS ?_; rotate_left; (intro w' hSw; go_simp; try with_reducible rfl); simp only [Act.put, List.setIfInBounds_toArray, List.set_cons_zero, List.set_cons_succ])
                  (refine ap_val (v := ?_) 1 rfl (by kernel_rfl) (by kernel_rfl) (by kernel_rfl) (by kernel_rfl) (by rfl) hPan ?_ hS ?_; rotate_left; (intro w' hSw; go_simp; try with_reducible rfl); simp only [Act.put, List.setIfInBounds_toArray, List.set_cons_zero, List.set_cons_succ])
                  (refine ap_val (v := ?_) 2 rfl (by kernel_rfl) (by kernel_rfl) (by kernel_rfl) (by kernel_rfl) (by rfl) hPan ?_ hS ?_; rotate_left; (intro w' hSw; go_simp; try with_reducible rfl); simp only [Act.put, List.setIfInBounds_toArray, List.set_cons_zero, List.set_cons_succ])
                  (refine ap_val (v := ?_) 3 rfl (by kernel_rfl) (by kernel_rfl) (by kernel_rfl) (by kernel_rfl) (by rfl) hPan ?_ hS ?_; rotate_left; (intro w' hSw; go_simp; try with_reducible rfl); simp only [Act.put, List.setIfInBounds_toArray, List.set_cons_zero, List.set_cons_succ])
                  (refine ap_off 4 rfl (by kernel_rfl) (by kernel_rfl) (by kernel_rfl) (by kernel_rfl) (by rfl) hPan hS ?_; simp only [Act.put, List.setIfInBounds_toArray, List.set_cons_zero, List.set_cons_succ])
                  (refine ap_off 5 rfl (by kernel_rfl) (by kernel_rfl) (by kernel_rfl) (by kernel_rfl) (by rfl) hPan hS ?_; simp only [Act.put, List.setIfInBounds_toArray, List.set_cons_zero, List.set_cons_succ])
                  (refine ap_off 6 rfl (by kernel_rfl) (by kernel_rfl) (by kernel_rfl) (by kernel_rfl) (by rfl) hPan hS ?_; simp only [Act.put, List.setIfInBounds_toArray, List.set_cons_zero, List.set_cons_succ])
                  (refine ap_off 7 rfl (by kernel_rfl) (by kernel_rfl) (by kernel_rfl) (by kernel_rfl) (by rfl) hPan hS ?_; simp only [Act.put, List.setIfInBounds_toArray, List.set_cons_zero, List.set_cons_succ])
                  (refine ap_off 8 rfl (by kernel_rfl) (by kernel_rfl) (by kernel_rfl) (by kernel_rfl) (by rfl) hPan hS ?_; simp only [Act.put, List.setIfInBounds_toArray, List.set_cons_zero, List.set_cons_succ])
                  (refine ap_off 9 rfl (by kernel_rfl) (by kernel_rfl) (by kernel_rfl) (by kernel_rfl) (by rfl) hPan hS ?_; simp only [Act.put, List.setIfInBounds_toArray, List.set_cons_zero, List.set_cons_succ])
                  (refine ap_off 10 rfl (by kernel_rfl) (by kernel_rfl) (by kernel_rfl) (by kernel_rfl) (by rfl) hPan hS ?_; simp only [Act.put, List.setIfInBounds_toArray, List.set_cons_zero, List.set_cons_succ])
                  (refine ap_off 11 rfl (by kernel_rfl) (by kernel_rfl) (by kernel_rfl) (by kernel_rfl) (by rfl) hPan hS ?_; simp only [Act.put, List.setIfInBounds_toArray, List.set_cons_zero, List.set_cons_succ])
                  (refine ap_off 12 rfl (by kernel_rfl) (by kernel_rfl) (by kernel_rfl) (by kernel_rfl) (by rfl) hPan hS ?_; simp only [Act.put, List.setIfInBounds_toArray, List.set_cons_zero, List.set_cons_succ])
                  (refine ap_off 13 rfl (by kernel_rfl) (by kernel_rfl) (by kernel_rfl) (by kernel_rfl) (by rfl) hPan hS ?_; simp only [Act.put, List.setIfInBounds_toArray, List.set_cons_zero, List.set_cons_succ])
                  refine ap_one 14 (by kernel_rfl) ?_
                  refine op_run (v := .bool false) (w' := wC.drew) 14 rfl (by rfl) (by go_simp) ?_
                  refine ⟨fun h => (by cases h), ap_done (by kernel_rfl) ?_ _⟩
                  (simp only [Act.put, List.setIfInBounds_toArray, List.set_cons_zero, List.set_cons_succ])
                  obtain ⟨wE, hwE⟩ : ∃ wE, wC.drew = wE := ⟨_, rfl⟩
                  rw [hwE] at hS ⊢
                  clear hwE hPan
                  have HWE := Lib.hid (HWC.out.then hS)
                  replace HRA := Lib.hid (HRA.out.keep0 hS)
                  replace HRB := Lib.hid (HRB.out.keep0 hS)
                  replace HRC := Lib.hid (HRC.out.keep0 hS)
                  have z0 := HCI wE HWE.out
                  have z1 := HCX wE HWE.out
                  clear hS
                  go_wp2_with (first
                    | (refine wpList_load_agg rfl 26 (.tmp 2) rfl rfl (cs := il) (by rw [HIC.out]; exact agg_image) z0.out ?_)
                    | (refine wpList_load_agg rfl 30 (.tmp 3) rfl rfl (cs := cl) (by rw [HCC.out]; exact agg_cert) z1.out ?_))
                  refine (HMo wE).out.mono ?_
                  rintro e y1 ⟨rfl, hy1⟩
                  have j1 : Keep [] wE y1 := by rw [← hy1]; exact ((Keep.refl [] wE).alloc _).alloc _
                  have C1 := Lib.hid ((HRM wE HWE.out).out y1 hy1)
                  clear hy1 z0 z1
                  go_wp2_with fail
                  refine C1.out.mono ?_
                  rintro e y2 ⟨A2, c2, vs2, rfl, hrd2, hts2, j2⟩
                  have j12 := j1.then j2
                  have C2 := hS53 A2 _ c2 cA vs2 ml y2 hrd2 hts2 (HRA.out.keep0 j12) (by omega) hTA
                  have J2 := Lib.hid j12
                  clear hrd2 hts2 j1 j2 j12 C1
                  go_wp2_with fail
                  refine C2.out.mono ?_
                  rintro e y3 ⟨rfl, j3⟩
                  have J3 := Lib.hid (J2.out.then j3)
                  have z0 := HCI y3 (HWE.out.then J3.out)
                  have z1 := HCX y3 (HWE.out.then J3.out)
                  clear j3 C2
                  go_wp2_with (first
                    | (refine wpList_agg_gd rfl 26 (.tmp 2) rfl rfl (cs := il) (by rw [HIC.out]; exact agg_image) z0.out ?_)
                    | (refine wpList_agg_gd rfl 30 (.tmp 3) rfl rfl (cs := cl) (by rw [HCC.out]; exact agg_cert) z1.out ?_))
                  refine (HEd y3).out.mono ?_
                  rintro e y4 ⟨rfl, hy4⟩
                  have j4 : Keep [] y3 y4 := by rw [← hy4]; exact ((Keep.refl [] y3).alloc _).alloc _
                  have C1 := Lib.hid ((HRE y3 (HWE.out.then J3.out)).out y4 hy4)
                  clear hy4 z0 z1
                  go_wp2_with fail
                  refine C1.out.mono ?_
                  rintro e y5 ⟨A5, c5, vs5, rfl, hrd5, hts5, j5⟩
                  have j45 := J3.out.then (j4.then j5)
                  have C2 := hS53 A5 _ c5 cB vs5 (edgesL x c) y5 hrd5 hts5 (HRB.out.keep0 j45) (by omega) hTB
                  have J5 := Lib.hid j45
                  clear hrd5 hts5 j4 j5 j45 C1
                  go_wp2_with fail
                  refine C2.out.mono ?_
                  rintro e y6 ⟨rfl, j6⟩
                  have J6 := Lib.hid (J5.out.then j6)
                  have z0 := HCI y6 (HWE.out.then J6.out)
                  clear j6 C2
                  go_wp2_with (refine wpList_agg_gd rfl 26 (.tmp 2) rfl rfl (cs := il) (by rw [HIC.out]; exact agg_image) z0.out ?_)
                  refine (HLo y6).out.mono ?_
                  rintro e y7 ⟨rfl, hy7⟩
                  have j7 : Keep [] y6 y7 := by rw [← hy7]; exact (Keep.refl [] y6).alloc _
                  have C1 := Lib.hid ((HRL y6 (HWE.out.then J6.out)).out y7 hy7)
                  clear hy7 z0
                  go_wp2_with fail
                  refine C1.out.mono ?_
                  rintro e y8 ⟨A8, c8, vs8, rfl, hrd8, hts8, j8⟩
                  have j78 := J6.out.then (j7.then j8)
                  have C2 := hS53 A8 _ c8 cC vs8 (loadsL x) y8 hrd8 hts8 (HRC.out.keep0 j78) (by omega) hTC
                  have J8 := Lib.hid j78
                  clear hrd8 hts8 j7 j8 j78 C1
                  go_wp2_with fail
                  refine C2.out.mono ?_
                  rintro e y9 ⟨rfl, j9⟩
                  have J9 := Lib.hid (J8.out.then j9)
                  clear j9 C2
                  go_wp2_with fail
                  refine (HAl y9).out.mono ?_
                  rintro e y10 ⟨rfl, j10⟩
                  go_wp2
                  go_ret
                  exact ⟨rfl, HK0.out.then (HWE.out.then (J9.out.then j10))⟩
                · have hfm := fun wz kk => HFM r rs HOV.out hml wz kk
                  have r3 : 0 < ml.length := by rw [hml]; exact Nat.zero_lt_succ _
                  have hm0 : ml[0] = r := by simp [hml]
                  have hrm : r ∈ ml := by rw [hml]; simp
                  clear HFM hml
                  obtain ⟨usA, hRdA, hIA⟩ := HRA.out.rd
                  obtain ⟨bA, oA, uA, hAA, hbA, huA, hcA0⟩ := hRdA.at_ (k := 0) r3
                  obtain ⟨A0, c0, e0, hi0⟩ := hIA 0 r3
                  rw [huA] at e0
                  cases e0
                  rw [hm0] at hcA0 hi0
                  have hF0 : ∀ w', Keep [] wC w' → w'.cell? ⟨bA, oA, none⟩ = some (.slice A0 r.length c0) ∧ True := fun w' kk => ⟨(kk.cell (p := ⟨bA, oA, none⟩) hbA (by simp)).trans hcA0, trivial⟩
                  have hIr : ∀ w', Keep [] wC w' → Reads w' 1 A0 r.length (iv r) := fun w' kk => hi0.keep0 kk
                  have hr100 := hTA r hrm
                  have hIc : ∀ w', Keep [] wC w' → CellsAt w' w.heap.size 0 il := fun w' kk => (HCI w' (HWC.out.then kk)).out
                  have hCc : ∀ w', Keep [] wC w' → CellsAt w' (w.heap.size + 1) 0 cl := fun w' kk => (HCX w' (HWC.out.then kk)).out
                  have r0 : decide ((0 : Int) < ((ml.length : Nat) : Int)) = true := decide_eq_true (by omega)
                  have r1 : decide (0 < ml.length) = true := decide_eq_true r3
                  have r2 : (0 : Int) < ((ml.length : Nat) : Int) := by omega
                  have hRT := fun A c l w h hl => Lib.hid (rtexts_any A c l w h hl)
                  have hEQ := fun A B c d l w hA hB hl => Lib.hid (sEqual_any A B c d l l w hA hB hl hl)
                  clear huA hcA0 hi0 hIA hRdA
                  subst hAA
                  go_wp2
                  refine ap_begin 14 (Keep [] wC) rfl (Keep.refl _ _).drew (fun hS hPan => ?_) (fun _ _ d _ _ h => by cases d <;> exact h)
                  (refine ap_val (v := ?_) 0 rfl (by kernel_rfl) (by kernel_rfl) (by kernel_rfl) (by kernel_rfl) (by rfl) hPan ?_ hS ?_; rotate_left; (intro w' hSw; go_simp; try with_reducible rfl); simp only [Act.put, List.setIfInBounds_toArray, List.set_cons_zero, List.set_cons_succ])
                  (refine ap_val (v := ?_) 1 rfl (by kernel_rfl) (by kernel_rfl) (by kernel_rfl) (by kernel_rfl) (by rfl) hPan ?_ hS ?_; rotate_left; (intro w' hSw; go_simp; try with_reducible rfl); simp only [Act.put, List.setIfInBounds_toArray, List.set_cons_zero, List.set_cons_succ])
                  refine ap_val (v := .bool true) 2 rfl (by kernel_rfl) (by kernel_rfl) (by kernel_rfl) (by kernel_rfl) (by rfl) hPan ?_ hS ?_
                  · intro w' hSw; go_simp; first | done | exact r0 | exact r1
                  (simp only [Act.put, List.setIfInBounds_toArray, List.set_cons_zero, List.set_cons_succ])
                  (refine ap_val (v := ?_) 3 rfl (by kernel_rfl) (by kernel_rfl) (by kernel_rfl) (by kernel_rfl) (by rfl) hPan ?_ hS ?_; rotate_left; (intro w' hSw; go_simp; try with_reducible rfl); simp only [Act.put, List.setIfInBounds_toArray, List.set_cons_zero, List.set_cons_succ])
                  refine ap_agg 4 26 (.tmp 2) il rfl (by kernel_rfl) (by kernel_rfl) (by kernel_rfl) (by kernel_rfl) (by rfl) hPan rfl rfl (by rw [HIC.out]; exact agg_image) hIc hS ?_
                  (simp only [Act.put, List.setIfInBounds_toArray, List.set_cons_zero, List.set_cons_succ])
                  refine ap_agg 5 30 (.tmp 3) cl rfl (by kernel_rfl) (by kernel_rfl) (by kernel_rfl) (by kernel_rfl) (by rfl) hPan rfl rfl (by rw [HCC.out]; exact agg_cert) hCc hS ?_
                  (simp only [Act.put, List.setIfInBounds_toArray, List.set_cons_zero, List.set_cons_succ])
                  (refine ap_val (v := ?_) 8 rfl (by kernel_rfl) (by kernel_rfl) (by kernel_rfl) (by kernel_rfl) (by rfl) hPan ?_ hS ?_; rotate_left; (intro w' hSw; go_simp; try with_reducible rfl); simp only [Act.put, List.setIfInBounds_toArray, List.set_cons_zero, List.set_cons_succ])
                  (refine ap_val (v := ?_) 9 rfl (by kernel_rfl) (by kernel_rfl) (by kernel_rfl) (by kernel_rfl) (by rfl) hPan ?_ hS ?_; rotate_left; (intro w' hSw; go_simp; try with_reducible rfl); simp only [Act.put, List.setIfInBounds_toArray, List.set_cons_zero, List.set_cons_succ])
                  (refine ap_val (v := ?_) 10 rfl (by kernel_rfl) (by kernel_rfl) (by kernel_rfl) (by kernel_rfl) (by rfl) hPan ?_ hS ?_; rotate_left; (intro w' hSw; obtain ⟨g1,g2⟩ := hF0 w' hSw; go_simp; try with_reducible rfl); simp only [Act.put, List.setIfInBounds_toArray, List.set_cons_zero, List.set_cons_succ])
                  have hS0 := hS
                  generalize wC.drew = wd at *
                  refine ap_one 6 (by kernel_rfl) ?_
                  refine op_call (f := 12) 6 rfl (by rfl) rfl (by simp only [List.map_toArray, List.map_cons, List.map_nil]; rfl) Tryd.func12 (by kernel_rfl) (by kernel_rfl) (HMo wd).out ?_
                  rintro e w2 ⟨rfl, hw2⟩
                  have k2 : Keep [] wd w2 := by rw [← hw2]; exact ((Keep.refl [] wd).alloc _).alloc _
                  have hfm2 := hfm wd (HWC.out.then hS) 
                  have hfm3 := hfm2.out w2 hw2
                  replace hS := hS.then k2
                  refine ⟨_, rfl, fun _ => hS, ?_⟩
                  clear hfm2 hw2
                  (simp only [Act.put, List.setIfInBounds_toArray, List.set_cons_zero, List.set_cons_succ])
                  refine ap_one 7 (by kernel_rfl) ?_
                  refine op_call (f := 11) 7 rfl (by rfl) rfl (by simp only [List.map_toArray, List.map_cons, List.map_nil]; rfl) Tryd.func11 (by kernel_rfl) (by kernel_rfl) hfm3 ?_
                  rintro e w3 ⟨Af, cf, rfl, htf, k3⟩
                  replace hS := hS.then k3
                  refine ⟨_, rfl, fun _ => hS, ?_⟩
                  clear hfm3
                  (simp only [Act.put, List.setIfInBounds_toArray, List.set_cons_zero, List.set_cons_succ])
                  refine ap_one 11 (by kernel_rfl) ?_
                  refine op_call (f := 13) 11 rfl (by rfl) rfl (by simp only [List.map_toArray, List.map_cons, List.map_nil]; rfl) Tryd.func13 (by kernel_rfl) (by kernel_rfl) (hRT A0 c0 r w3 (hIr _ hS) (by omega)).out ?_
                  rintro e w4 ⟨A4, c4, rfl, hown4, k4⟩
                  have hE := hEQ Af A4 cf c4 (txts r) w4 (htf.rd.keep0 k4) (Reads.of_own hown4) (by rw [txts_len]; omega)
                  rw [decide_true] at hE
                  replace hS := hS.then k4
                  refine ⟨_, rfl, fun _ => hS, ?_⟩
                  clear k4 hown4
                  (simp only [Act.put, List.setIfInBounds_toArray, List.set_cons_zero, List.set_cons_succ])
                  refine ap_one 12 (by kernel_rfl) ?_
                  refine op_call (f := 10) 12 rfl (by rfl) rfl (by simp only [List.map_toArray, List.map_cons, List.map_nil]; rfl) Tryd.func10 (by kernel_rfl) (by kernel_rfl) hE.out ?_
                  rintro e w5 ⟨rfl, k5⟩
                  replace hS := hS.then k5
                  refine ⟨_, rfl, fun _ => hS, ?_⟩
                  clear k5 hE
                  (simp only [Act.put, List.setIfInBounds_toArray, List.set_cons_zero, List.set_cons_succ])
                  (refine ap_val (v := ?_) 13 rfl (by kernel_rfl) (by kernel_rfl) (by kernel_rfl) (by kernel_rfl) (by rfl) hPan ?_ hS ?_; rotate_left; (intro w' hSw; go_simp; try with_reducible rfl); simp only [Act.put, List.setIfInBounds_toArray, List.set_cons_zero, List.set_cons_succ])
                  refine ap_one 14 (by kernel_rfl) ?_
                  refine op_run (v := .bool false) (w' := w5) 14 rfl (by rfl) (by go_simp) ?_
                  refine ⟨fun h => (by cases h), ap_done (by kernel_rfl) ?_ _⟩
                  (simp only [Act.put, List.setIfInBounds_toArray, List.set_cons_zero, List.set_cons_succ])
                  obtain ⟨wE, hwE⟩ : ∃ wE, w5 = wE := ⟨_, rfl⟩
                  rw [hwE] at hS ⊢
                  clear hwE hPan hS0 hF0 hIr hIc hCc hEQ hRT
                  have HWE := Lib.hid (HWC.out.then hS)
                  replace HRA := Lib.hid (HRA.out.keep0 hS)
                  replace HRB := Lib.hid (HRB.out.keep0 hS)
                  replace HRC := Lib.hid (HRC.out.keep0 hS)
                  have z0 := HCI wE HWE.out
                  have z1 := HCX wE HWE.out
                  clear hS
                  go_wp2_with (first
                    | (refine wpList_load_agg rfl 26 (.tmp 2) rfl rfl (cs := il) (by rw [HIC.out]; exact agg_image) z0.out ?_)
                    | (refine wpList_load_agg rfl 30 (.tmp 3) rfl rfl (cs := cl) (by rw [HCC.out]; exact agg_cert) z1.out ?_))
                  refine (HMo wE).out.mono ?_
                  rintro e y1 ⟨rfl, hy1⟩
                  have j1 : Keep [] wE y1 := by rw [← hy1]; exact ((Keep.refl [] wE).alloc _).alloc _
                  have C1 := Lib.hid ((HRM wE HWE.out).out y1 hy1)
                  clear hy1 z0 z1
                  go_wp2_with fail
                  refine C1.out.mono ?_
                  rintro e y2 ⟨A2, c2, vs2, rfl, hrd2, hts2, j2⟩
                  have j12 := j1.then j2
                  have C2 := hS53 A2 _ c2 cA vs2 ml y2 hrd2 hts2 (HRA.out.keep0 j12) (by omega) hTA
                  have J2 := Lib.hid j12
                  clear hrd2 hts2 j1 j2 j12 C1
                  go_wp2_with fail
                  refine C2.out.mono ?_
                  rintro e y3 ⟨rfl, j3⟩
                  have J3 := Lib.hid (J2.out.then j3)
                  have z0 := HCI y3 (HWE.out.then J3.out)
                  have z1 := HCX y3 (HWE.out.then J3.out)
                  clear j3 C2
                  go_wp2_with (first
                    | (refine wpList_agg_gd rfl 26 (.tmp 2) rfl rfl (cs := il) (by rw [HIC.out]; exact agg_image) z0.out ?_)
                    | (refine wpList_agg_gd rfl 30 (.tmp 3) rfl rfl (cs := cl) (by rw [HCC.out]; exact agg_cert) z1.out ?_))
                  refine (HEd y3).out.mono ?_
                  rintro e y4 ⟨rfl, hy4⟩
                  have j4 : Keep [] y3 y4 := by rw [← hy4]; exact ((Keep.refl [] y3).alloc _).alloc _
                  have C1 := Lib.hid ((HRE y3 (HWE.out.then J3.out)).out y4 hy4)
                  clear hy4 z0 z1
                  go_wp2_with fail
                  refine C1.out.mono ?_
                  rintro e y5 ⟨A5, c5, vs5, rfl, hrd5, hts5, j5⟩
                  have j45 := J3.out.then (j4.then j5)
                  have C2 := hS53 A5 _ c5 cB vs5 (edgesL x c) y5 hrd5 hts5 (HRB.out.keep0 j45) (by omega) hTB
                  have J5 := Lib.hid j45
                  clear hrd5 hts5 j4 j5 j45 C1
                  go_wp2_with fail
                  refine C2.out.mono ?_
                  rintro e y6 ⟨rfl, j6⟩
                  have J6 := Lib.hid (J5.out.then j6)
                  have z0 := HCI y6 (HWE.out.then J6.out)
                  clear j6 C2
                  go_wp2_with (refine wpList_agg_gd rfl 26 (.tmp 2) rfl rfl (cs := il) (by rw [HIC.out]; exact agg_image) z0.out ?_)
                  refine (HLo y6).out.mono ?_
                  rintro e y7 ⟨rfl, hy7⟩
                  have j7 : Keep [] y6 y7 := by rw [← hy7]; exact (Keep.refl [] y6).alloc _
                  have C1 := Lib.hid ((HRL y6 (HWE.out.then J6.out)).out y7 hy7)
                  clear hy7 z0
                  go_wp2_with fail
                  refine C1.out.mono ?_
                  rintro e y8 ⟨A8, c8, vs8, rfl, hrd8, hts8, j8⟩
                  have j78 := J6.out.then (j7.then j8)
                  have C2 := hS53 A8 _ c8 cC vs8 (loadsL x) y8 hrd8 hts8 (HRC.out.keep0 j78) (by omega) hTC
                  have J8 := Lib.hid j78
                  clear hrd8 hts8 j7 j8 j78 C1
                  go_wp2_with fail
                  refine C2.out.mono ?_
                  rintro e y9 ⟨rfl, j9⟩
                  have J9 := Lib.hid (J8.out.then j9)
                  clear j9 C2
                  go_wp2_with fail
                  refine (HAl y9).out.mono ?_
                  rintro e y10 ⟨rfl, j10⟩
                  go_wp2
                  go_ret
                  exact ⟨rfl, HK0.out.then (HWE.out.then (J9.out.then j10))⟩

theorem sheetRows_any (v : ImgV) (x : Img) (vc : CrtV) (c : Crt) (w : World) (hTb : Tab w) (h : ImgAt w v x) (hc : CrtW w vc c) :
    Calls Tryd.prog 3 #[.agg (imgCells v x).toArray, .agg (crtCells vc c).toArray] w fun e w' => e = .returned (.bool true) ∧ Keep [] w w' := by
  cases hg : greatImg x with
  | true => exact sheetRows_out v x vc c w h hc (.inl hg)
  | false =>
    cases hr : ((chkImg x).2 == 0) with
    | false => exact sheetRows_out v x vc c w h hc (.inr (.inl hr))
    | true =>
      cases hgc : greatC c with
      | true => exact sheetRows_out v x vc c w h hc (.inr (.inr hgc))
      | false => exact sheetRows_in v x vc c w hTb h hc hg hr hgc
end Go.Proofs.YteocldlglklnjaaDoor
